/- Part 12 of the proof: the texts EngAC, EngAD, EngAF, NeA, MkT, MkN. -/
import Derived.Test.YthpdkhejeookhaaGreatDoorPart11
import Derived.Test.YthpdkhejeookhaaGreatDoorPart5
import Derived.Test.YthpdkhejeookhaaGreatDoorPart6
import Derived.Test.YthpdkhejeookhaaGreatDoorPart7
import Derived.Test.YthpdkhejeookhaaGreatDoorPart2
import Derived.Test.YthpdkhejeookhaaGreatDoorPart1
import Derived.Deep.RegionHeld3
/- The abstract walk, part 22: a region that draws its order in which memory is made: the rules. -/
namespace Go.Proofs.YthpdkhejeookhaaGreatDoor
open Go Go.RowKit
def pt0 : Pt := fun _ => .no
structure Mki where
  idx : Nat
  O : Pt → Objs
  src : Option Nat
  I : Yu → Prop
def fnd (L : List Mki) (i : Nat) : Option Mki := L.find? fun m => Nat.beq m.idx i
def Mks.of (L : List Mki) : Mks where
  on i := (fnd L i).isSome
  O i p := match fnd L i with | some m => m.O p | none => []
  src i := (fnd L i).bind (·.src)
  I i y := match fnd L i with | some m => m.I y | none => True
def srcO (L : List Mki) (src : Option Nat) (p : Pt) : Objs := match src with
  | some i => (Mks.of L).O i p
  | none => []
def liveL (L : List Mki) : List Mki := L.filter fun m => L.all fun m' => !(match m'.src with | some i => Nat.beq i m.idx | none => false)
structure MWf (L : List Mki) (c : Nat) : Prop where
  lt : ∀ m ∈ L, m.idx < c ∨ 1000000 ≤ m.idx
  pw : L.Pairwise fun a b => a.idx ≠ b.idx ∧ ∀ i, a.src = some i → b.src ≠ some i
theorem fnd_none {L : List Mki} {i : Nat} (h : ∀ m ∈ L, m.idx ≠ i) : fnd L i = none := List.find?_eq_none.2 fun m hm => by
  rw [beq_f (h m hm)]; decide
theorem fnd_new {new L : List Mki} {c i : Nat} (hn : ∀ m ∈ new, c ≤ m.idx ∧ m.idx < 1000000) (hi : i < c ∨ 1000000 ≤ i) : fnd (new ++ L) i = fnd L i := by
  unfold fnd
  rw [List.find?_append]
  have : new.find? (fun m => Nat.beq m.idx i) = none := fnd_none fun m hm => by have := hn m hm; omega
  rw [this]; rfl
theorem fnd_mem {L : List Mki} {i : Nat} {m : Mki} (h : fnd L i = some m) : m ∈ L ∧ m.idx = i := ⟨List.mem_of_find?_eq_some h, by
  have := List.find?_some h
  exact Nat.eq_of_beq_eq_true this⟩
theorem fnd_of {L : List Mki} {c : Nat} (h : MWf L c) {m : Mki} (hm : m ∈ L) : fnd L m.idx = some m := by
  have hp := h.pw
  clear h
  induction L with
  | nil => cases hm
  | cons x r ih =>
    obtain ⟨h1, h2⟩ := List.pairwise_cons.1 hp
    unfold fnd
    rw [List.find?_cons]
    rcases List.mem_cons.1 hm with rfl | hm
    · have : Nat.beq m.idx m.idx = true := Nat.beq_refl _
      simp only [this]
    · have hne : x.idx ≠ m.idx := (h1 m hm).1
      simp only [beq_f hne]
      exact ih hm h2
section
variable {P : Program} {w0 : World} {N : Nat} {Q : Exit → Act → World → Prop} {objs : Objs} {ops : Array Oper}
inductive DM (P : Program) (w0 : World) (N : Nat) (ops : Array Oper) (objs : Objs) (K : List Mki → (Pt → Env) → Prop) : Nat → List Mki → List Oper → (Pt → Env) → Prop
  | nil (c : Nat) (L : List Mki) (E : Pt → Env) (h : K L E) : DM P w0 N ops objs K c L [] E
  | run (c : Nat) (L : List Mki) (o : Oper) (rest : List Oper) (E : Pt → Env) (d : Nat) (T : Pt → TV) (hd : o.dst = some d) (hN : Nat.blt d N = true) (hg : o.guard = none) (hi : IndT ops c T) (hy : ∀ p R, (∀ x ∈ objs, x ∈ R) → Yields P w0 (E p) R o (T p))
      (h : DM P w0 N ops objs K (c + 1) L rest (fun p => (d, T p) :: E p)) : DM P w0 N ops objs K c L (o :: rest) E
  | make (c : Nat) (L : List Mki) (o : Oper) (rest : List Oper) (E : Pt → Env) (d : Nat) (O : Pt → Objs) (src : Option Nat) (I : Yu → Prop) (T : Pt → TV) (hd : o.dst = some d) (hN : Nat.blt d N = true) (hg : o.guard = none) (hi : IndT ops c T) (hO : IndT ops c O)
      (hs : ∀ i, src = some i → (i < ops.size → Ahead ops c i) ∧ (fnd L i).isSome = true ∧ ∀ m ∈ L, m.src ≠ some i) (hm : ∀ p R, (∀ x ∈ objs, x ∈ R) → MkW P w0 (E p) o (srcO L src p) R I (fun y => O (p.put c y)) (fun y => T (p.put c y)))
      (h : DM P w0 N ops objs K (c + 1) (⟨c, O, src, I⟩ :: L) rest (fun p => (d, T p) :: E p)) : DM P w0 N ops objs K c L (o :: rest) E
  | makeN (c : Nat) (L : List Mki) (o : Oper) (rest : List Oper) (E : Pt → Env) (O : Pt → Objs) (src : Option Nat) (I : Yu → Prop) (T : Pt → TV) (hd : o.dst = none) (hg : o.guard = none) (hi : IndT ops c T) (hO : IndT ops c O)
      (hs : ∀ i, src = some i → (i < ops.size → Ahead ops c i) ∧ (fnd L i).isSome = true ∧ ∀ m ∈ L, m.src ≠ some i) (hm : ∀ p R, (∀ x ∈ objs, x ∈ R) → MkW P w0 (E p) o (srcO L src p) R I (fun y => O (p.put c y)) (fun y => T (p.put c y)))
      (h : DM P w0 N ops objs K (c + 1) (⟨c, O, src, I⟩ :: L) rest E) : DM P w0 N ops objs K c L (o :: rest) E
theorem OpM.congr {M : Mks} {σ σ' : Pt → Nat → Env} {c : Nat} {o : Oper} (h : OpM P w0 N ops objs M σ c o) (h1 : ∀ p, σ' p c = σ p c) (h2 : ∀ p, σ' p (c + 1) = σ p (c + 1)) : OpM P w0 N ops objs M σ' c o := by
  unfold OpM at h ⊢
  simpa only [h1, h2] using h
theorem dm_steps {K : List Mki → (Pt → Env) → Prop} {c : Nat} {L : List Mki} {l : List Oper} {E : Pt → Env} (h : DM P w0 N ops objs K c L l E) (hL : MWf L c) (hbig : c + l.length < 1000000) : ∃ (σ : Pt → Nat → Env) (new : List Mki) (Ef : Pt → Env), K (new ++ L) Ef ∧ (∀ m ∈ new, c ≤ m.idx ∧ m.idx < 1000000) ∧ MWf (new ++ L) (c + l.length) ∧ (∀ p, σ p c = E p) ∧ (∀ p, σ p (c + l.length) = Ef p) ∧ ∀ j o, l[j]? = some o → OpM P w0 N ops objs (Mks.of (new ++ L)) σ (c + j) o := by
  induction h with
  | nil c L E h => exact ⟨fun p _ => E p, [], E, h, by simp, hL, fun _ => rfl, fun _ => rfl, by simp⟩
  | run c L o rest E d T hd hN hg hi hy h ih =>
    obtain ⟨σ, new, Ef, h1, h2, h3, h4, h5, h6⟩ := ih ⟨fun m hm => (hL.lt m hm).imp Nat.lt_succ_of_lt id, hL.pw⟩ (by rw [List.length_cons] at hbig; omega)
    rw [List.length_cons] at hbig
    have hfn : fnd (new ++ L) c = none := fnd_none fun m hm => by
      rcases List.mem_append.1 hm with hm | hm
      · have := h2 m hm; omega
      · have := hL.lt m hm; omega
    refine ⟨fun p i => if i = c then E p else σ p i, new, Ef, h1, fun m hm => by have := h2 m hm; omega, by rw [List.length_cons, show c + (rest.length + 1) = c + 1 + rest.length by omega]; exact h3, fun p => if_pos rfl, fun p => ?_, fun j o' hj => ?_⟩
    · dsimp only
      rw [if_neg (by simp), List.length_cons, show c + (rest.length + 1) = c + 1 + rest.length by omega]; exact h5 p
    · cases j with
      | zero =>
        simp only [List.getElem?_cons_zero, Option.some.injEq] at hj
        subst hj
        refine ⟨T, hg, .inl ⟨d, hd, Nat.blt_eq ▸ hN, fun p t => ?_⟩, hi, .inl ⟨by show (fnd (new ++ L) (c + 0)).isSome = false; rw [Nat.add_zero, hfn]; rfl, by show (fnd (new ++ L) (c + 0)).bind _ = none; rw [Nat.add_zero, hfn]; rfl, fun p R hR => ?_⟩⟩
        · dsimp only
          rw [if_neg (by omega), if_pos (by omega), Nat.add_zero, h4 p]
        · dsimp only
          rw [if_pos (by omega)]
          exact hy p R hR
      | succ j =>
        have := h6 j o' (by simpa using hj)
        rw [show c + 1 + j = c + (j + 1) by omega] at this
        exact this.congr (fun p => if_neg (by omega)) fun p => if_neg (by omega)
  | make c L o rest E d O src I T hd hN hg hi hO hs hm h ih =>
    obtain ⟨σ, new, Ef, h1, h2, h3, h4, h5, h6⟩ := ih ⟨fun m hm => by
      rcases List.mem_cons.1 hm with rfl | hm
      · exact .inl (Nat.lt_succ_self _)
      · exact (hL.lt m hm).imp Nat.lt_succ_of_lt id, List.pairwise_cons.2 ⟨fun m hm => ⟨by rw [List.length_cons] at hbig; have := hL.lt m hm; dsimp only; omega, fun i hi2 => (hs i hi2).2.2 m hm⟩, hL.pw⟩⟩ (by rw [List.length_cons] at hbig; omega)
    rw [List.length_cons] at hbig
    have happ : new ++ (⟨c, O, src, I⟩ :: L) = (new ++ [⟨c, O, src, I⟩]) ++ L := by simp
    have hfn : fnd (new ++ (⟨c, O, src, I⟩ :: L)) c = some ⟨c, O, src, I⟩ := by
      rw [fnd_new (c := c + 1) h2 (.inl (Nat.lt_succ_self c))]
      unfold fnd
      rw [List.find?_cons]
      have : Nat.beq c c = true := Nat.beq_refl _
      simp only [this]
    have hfl : ∀ i, (i < c ∨ 1000000 ≤ i) → fnd (new ++ (⟨c, O, src, I⟩ :: L)) i = fnd L i := fun i hic => by
      rw [fnd_new (c := c + 1) h2 (by omega)]
      unfold fnd
      rw [List.find?_cons]
      have : Nat.beq c i = false := beq_f (by omega)
      simp only [this]
    refine ⟨fun p i => if i = c then E p else σ p i, new ++ [⟨c, O, src, I⟩], Ef, happ ▸ h1, fun m hm => ?_, by rw [List.length_cons, show c + (rest.length + 1) = c + 1 + rest.length by omega]; exact happ ▸ h3, fun p => if_pos rfl, fun p => ?_, fun j o' hj => ?_⟩
    · rcases List.mem_append.1 hm with hm | hm
      · have := h2 m hm; omega
      · simp only [List.mem_singleton] at hm
        subst hm; exact ⟨Nat.le_refl _, by dsimp only; omega⟩
    · dsimp only
      rw [if_neg (by simp), List.length_cons, show c + (rest.length + 1) = c + 1 + rest.length by omega]; exact h5 p
    · rw [← happ]
      cases j with
      | zero =>
        simp only [List.getElem?_cons_zero, Option.some.injEq] at hj
        subst hj
        have hOc : (Mks.of (new ++ (⟨c, O, src, I⟩ :: L))).O c = O := by
          funext p
          show (match fnd (new ++ (⟨c, O, src, I⟩ :: L)) c with | some m => m.O p | none => []) = _
          rw [hfn]
        have hsc : (Mks.of (new ++ (⟨c, O, src, I⟩ :: L))).src c = src := by
          show (fnd (new ++ (⟨c, O, src, I⟩ :: L)) c).bind _ = _
          rw [hfn]; rfl
        have hIc : (Mks.of (new ++ (⟨c, O, src, I⟩ :: L))).I c = I := by
          funext y
          show (match fnd (new ++ (⟨c, O, src, I⟩ :: L)) c with | some m => m.I y | none => True) = _
          rw [hfn]
        rw [Nat.add_zero]
        refine ⟨T, hg, .inl ⟨d, hd, Nat.blt_eq ▸ hN, fun p t => ?_⟩, hi, .inr ⟨by show (fnd (new ++ (⟨c, O, src, I⟩ :: L)) c).isSome = true; rw [hfn]; rfl, by rw [hOc]; exact hO, fun i hi2 => ?_, fun p R hR => ?_⟩⟩
        · dsimp only
          rw [if_neg (by omega), if_pos rfl, h4 p]
        · rw [hsc] at hi2
          obtain ⟨e1, e2, _⟩ := hs i hi2
          have hic : i < c ∨ 1000000 ≤ i := by
            obtain ⟨m, hm⟩ := Option.isSome_iff_exists.1 e2
            obtain ⟨g1, g2⟩ := fnd_mem hm
            have := hL.lt m g1
            omega
          exact ⟨by omega, e1, by show (fnd (new ++ (⟨c, O, src, I⟩ :: L)) i).isSome = true; rw [hfl i hic]; exact e2⟩
        · dsimp only
          rw [if_pos rfl, hOc, hIc]
          have hcons : (Mks.of (new ++ (⟨c, O, src, I⟩ :: L))).cons c p = srcO L src p := by
            unfold Mks.cons srcO
            rw [hsc]
            cases hsr : src with
            | none => rfl
            | some i =>
              have hic : i < c ∨ 1000000 ≤ i := by
                obtain ⟨_, e2, _⟩ := hs i hsr
                obtain ⟨m, hm⟩ := Option.isSome_iff_exists.1 e2
                obtain ⟨g1, g2⟩ := fnd_mem hm
                have := hL.lt m g1
                omega
              rw [hsr] at hfl
              show (match fnd (new ++ (⟨c, O, some i, I⟩ :: L)) i with | some m => m.O p | none => []) = (match fnd L i with | some m => m.O p | none => [])
              rw [hfl i hic]
          rw [hcons]
          exact hm p R hR
      | succ j =>
        have := h6 j o' (by simpa using hj)
        rw [show c + 1 + j = c + (j + 1) by omega] at this
        exact this.congr (fun p => if_neg (by omega)) fun p => if_neg (by omega)
  | makeN c L o rest E O src I T hd hg hi hO hs hm h ih =>
    obtain ⟨σ, new, Ef, h1, h2, h3, h4, h5, h6⟩ := ih ⟨fun m hm => by
      rcases List.mem_cons.1 hm with rfl | hm
      · exact .inl (Nat.lt_succ_self _)
      · exact (hL.lt m hm).imp Nat.lt_succ_of_lt id, List.pairwise_cons.2 ⟨fun m hm => ⟨by rw [List.length_cons] at hbig; have := hL.lt m hm; dsimp only; omega, fun i hi2 => (hs i hi2).2.2 m hm⟩, hL.pw⟩⟩ (by rw [List.length_cons] at hbig; omega)
    rw [List.length_cons] at hbig
    have happ : new ++ (⟨c, O, src, I⟩ :: L) = (new ++ [⟨c, O, src, I⟩]) ++ L := by simp
    have hfn : fnd (new ++ (⟨c, O, src, I⟩ :: L)) c = some ⟨c, O, src, I⟩ := by
      rw [fnd_new (c := c + 1) h2 (.inl (Nat.lt_succ_self c))]
      unfold fnd
      rw [List.find?_cons]
      have : Nat.beq c c = true := Nat.beq_refl _
      simp only [this]
    have hfl : ∀ i, (i < c ∨ 1000000 ≤ i) → fnd (new ++ (⟨c, O, src, I⟩ :: L)) i = fnd L i := fun i hic => by
      rw [fnd_new (c := c + 1) h2 (by omega)]
      unfold fnd
      rw [List.find?_cons]
      have : Nat.beq c i = false := beq_f (by omega)
      simp only [this]
    refine ⟨fun p i => if i = c then E p else σ p i, new ++ [⟨c, O, src, I⟩], Ef, happ ▸ h1, fun m hm => ?_, by rw [List.length_cons, show c + (rest.length + 1) = c + 1 + rest.length by omega]; exact happ ▸ h3, fun p => if_pos rfl, fun p => ?_, fun j o' hj => ?_⟩
    · rcases List.mem_append.1 hm with hm | hm
      · have := h2 m hm; omega
      · simp only [List.mem_singleton] at hm
        subst hm; exact ⟨Nat.le_refl _, by dsimp only; omega⟩
    · dsimp only
      rw [if_neg (by simp), List.length_cons, show c + (rest.length + 1) = c + 1 + rest.length by omega]; exact h5 p
    · rw [← happ]
      cases j with
      | zero =>
        simp only [List.getElem?_cons_zero, Option.some.injEq] at hj
        subst hj
        have hOc : (Mks.of (new ++ (⟨c, O, src, I⟩ :: L))).O c = O := by
          funext p
          show (match fnd (new ++ (⟨c, O, src, I⟩ :: L)) c with | some m => m.O p | none => []) = _
          rw [hfn]
        have hsc : (Mks.of (new ++ (⟨c, O, src, I⟩ :: L))).src c = src := by
          show (fnd (new ++ (⟨c, O, src, I⟩ :: L)) c).bind _ = _
          rw [hfn]; rfl
        have hIc : (Mks.of (new ++ (⟨c, O, src, I⟩ :: L))).I c = I := by
          funext y
          show (match fnd (new ++ (⟨c, O, src, I⟩ :: L)) c with | some m => m.I y | none => True) = _
          rw [hfn]
        rw [Nat.add_zero]
        refine ⟨T, hg, .inr ⟨hd, fun p t => ?_⟩, hi, .inr ⟨by show (fnd (new ++ (⟨c, O, src, I⟩ :: L)) c).isSome = true; rw [hfn]; rfl, by rw [hOc]; exact hO, fun i hi2 => ?_, fun p R hR => ?_⟩⟩
        · dsimp only
          rw [if_neg (by omega), if_pos rfl, h4 p]
        · rw [hsc] at hi2
          obtain ⟨e1, e2, _⟩ := hs i hi2
          have hic : i < c ∨ 1000000 ≤ i := by
            obtain ⟨m, hm⟩ := Option.isSome_iff_exists.1 e2
            obtain ⟨g1, g2⟩ := fnd_mem hm
            have := hL.lt m g1
            omega
          exact ⟨by omega, e1, by show (fnd (new ++ (⟨c, O, src, I⟩ :: L)) i).isSome = true; rw [hfl i hic]; exact e2⟩
        · dsimp only
          rw [if_pos rfl, hOc, hIc]
          have hcons : (Mks.of (new ++ (⟨c, O, src, I⟩ :: L))).cons c p = srcO L src p := by
            unfold Mks.cons srcO
            rw [hsc]
            cases hsr : src with
            | none => rfl
            | some i =>
              have hic : i < c ∨ 1000000 ≤ i := by
                obtain ⟨_, e2, _⟩ := hs i hsr
                obtain ⟨m, hm⟩ := Option.isSome_iff_exists.1 e2
                obtain ⟨g1, g2⟩ := fnd_mem hm
                have := hL.lt m g1
                omega
              rw [hsr] at hfl
              show (match fnd (new ++ (⟨c, O, some i, I⟩ :: L)) i with | some m => m.O p | none => []) = (match fnd L i with | some m => m.O p | none => [])
              rw [hfl i hic]
          rw [hcons]
          exact hm p R hR
      | succ j =>
        have := h6 j o' (by simpa using hj)
        rw [show c + 1 + j = c + (j + 1) by omega] at this
        exact this.congr (fun p => if_neg (by omega)) fun p => if_neg (by omega)
/-- A region that draws its order: quiet operations and makings of memory (l1), then the rest in order. L0: what was there before and may be consumed. -/
theorem aw_drawG (L0 : List Mki) (k : Nat) {id : Nat} {l l1 l2 : List Oper} {env : Env} (hm : P.follows .mixedOrders = true) (hok : drawOk l.toArray = true) (htl : tailOk l.toArray k = true) (hbl : Nat.blt l.length 1000000 = true) (hc : Cut k l l1 l2) (hL0 : MWf L0 0) (hcon : ∀ m ∈ L0, m.src = none ∧ (∀ p p', m.O p = m.O p') ∧ ∀ y, m.I y)
    (h : DM P w0 N l.toArray objs (fun L E => ∀ p : Pt, (∀ m ∈ L, m.I (p m.idx)) → AL P w0 N l.toArray Q l2 (E p) ((liveL L).flatMap (fun m => m.O p) ++ objs)) 0 L0 l1 (fun _ => env)) : AW P w0 N (.region id l.toArray true) Q env (L0.flatMap (fun m => m.O pt0) ++ objs) := ⟨fun a w hs => by
  obtain ⟨e1, e2, hkl⟩ := hc.eq
  have hbl : l.length < 1000000 := Nat.blt_eq ▸ hbl
  have hl1 : l1.length = k := by rw [e1, List.length_take]; omega
  obtain ⟨σ, new0, Ef, h1, hnew, h3, h4, h5, h6⟩ := dm_steps h hL0 (by omega)
  rw [hl1, Nat.zero_add] at h5 h3
  have hnk : ∀ m ∈ new0, m.idx < k := fun m hm => by
    have := h3.lt m (List.mem_append_left _ hm)
    have := hnew m hm
    omega
  have hL0i : ∀ m ∈ L0, 1000000 ≤ m.idx := fun m hm => by have := hL0.lt m hm; omega
  have hmemL : ∀ m, m ∈ new0 ++ L0 → ¬ m.idx < k → m ∈ L0 := fun m hm hk => by
    rcases List.mem_append.1 hm with h | h
    · exact absurd (hnk m h) hk
    · exact h
  have hL0m : ∀ m ∈ L0, m ∈ new0 ++ L0 := fun m hm => List.mem_append_right _ hm
  generalize new0 ++ L0 = new at h1 h3 h6 hmemL hL0m
  have hop : ∀ c o, c < k → l.toArray[c]? = some o → OpM P w0 N l.toArray objs (Mks.of new) σ c o := fun c o hck ho => by
    have := h6 c o (by rw [e1, List.getElem?_take, if_pos hck]; simpa using ho)
    rwa [Nat.zero_add] at this
  have hrep : ∀ i, (Array.replicate l.toArray.size false).getD i false = false := fun i => by
    rcases Nat.lt_or_ge i l.toArray.size with h | h
    · simp at h; simp [h]
    · simp at h; simp [Array.getD_eq_getD_getElem?, h]
  have hsrc : ∀ {c i : Nat}, (Mks.of new).src c = some i → ∃ m ∈ new, m.idx = c ∧ m.src = some i := fun {c i} hci => by
    obtain ⟨m, hm, hmi⟩ := Option.bind_eq_some_iff.1 hci
    obtain ⟨g1, g2⟩ := fnd_mem hm
    exact ⟨m, g1, g2, hmi⟩
  have hOof : ∀ {m : Mki} (_ : m ∈ new) (p : Pt), (Mks.of new).O m.idx p = m.O p := fun {m} hm p => by
    show (match fnd new m.idx with | some m => m.O p | none => []) = _
    rw [fnd_of h3 hm]
  have hon : ∀ {m : Mki} (_ : m ∈ new), (Mks.of new).on m.idx = true := fun {m} hm => by
    show (fnd new m.idx).isSome = true
    rw [fnd_of h3 hm]; rfl
  have hfla : ∀ (p : Pt) (l3 : List Mki), (∀ m ∈ l3, m ∈ new) → (l3.map (·.idx)).flatMap (fun i => (Mks.of new).O i p) = l3.flatMap fun m => m.O p := fun p l3 => by
    induction l3 with
    | nil => intro _; rfl
    | cons x r ih =>
      intro hx
      rw [List.map_cons, List.flatMap_cons, List.flatMap_cons, ih fun y hy => hx y (List.mem_cons_of_mem _ hy), hOof (hx x List.mem_cons_self)]
  have hnd : (liveL new).Pairwise fun a b => a.idx ≠ b.idx := (h3.pw.imp fun h => h.1).filter _
  refine wp_region_any hm (any_of_jm (objs := objs) hok (k := k) (by simp; omega) htl (M := Mks.of new) (σ := σ) (fun p p' t => by rw [h4, h4]) hop (fun c c' i hck hck' hsc hsc' => ?_) (fun j hj p p' => ?_) (ms := (liveL new).map (·.idx)) (List.Pairwise.map _ (fun a b h => h) hnd) (fun i => ?_) (fun p hI => ?_) _ _ _ _ (by simp) (by simp [unlisted]) (fun i hi => by rw [hrep] at hi; cases hi) (fun j oj _ hx => nomatch (hrep j).symm.trans hx) ⟨pt0, L0.flatMap (fun m => m.O pt0) ++ objs, ⟨L0.map (·.idx), List.Pairwise.map _ (fun a b h => h) (hL0.pw.imp fun h => h.1), fun i => ?_, by rw [hfla pt0 L0 hL0m]⟩, ⟨hs.defers, hs.size, ?_, fun t c hc' h7 h8 v hv => ?_⟩, fun i _ hx => nomatch (hrep i).symm.trans hx⟩)
  · obtain ⟨m, g1, g2, g3⟩ := hsrc hsc
    obtain ⟨m', g1', g2', g3'⟩ := hsrc hsc'
    refine Classical.byContradiction fun hne => ?_
    obtain ⟨x, hx, rfl⟩ := List.getElem_of_mem g1
    obtain ⟨y, hy, rfl⟩ := List.getElem_of_mem g1'
    have hne : x ≠ y := fun e => by subst e; omega
    rcases Nat.lt_or_gt_of_ne hne with hxy | hxy
    · exact (List.pairwise_iff_getElem.1 h3.pw x y hx hy hxy).2 i g3 g3'
    · exact (List.pairwise_iff_getElem.1 h3.pw y x hy hx hxy).2 i g3' g3
  · show (match fnd new j with | some m => m.O p | none => []) = (match fnd new j with | some m => m.O p' | none => [])
    cases hf : fnd new j with
    | none => rfl
    | some m =>
      obtain ⟨g1, g2⟩ := fnd_mem hf
      exact (hcon m (hmemL m g1 (by simp at hj; omega))).2.1 p p'
  · unfold Live
    rw [List.mem_map]
    constructor
    · rintro ⟨m, hm, rfl⟩
      obtain ⟨g1, g2⟩ := List.mem_filter.1 hm
      refine ⟨fun hlt => ?_, hon g1, fun c hck hsc _ => ?_⟩
      · have := h3.lt m g1
        simp at hlt
        omega
      · obtain ⟨m', g1', _, g3'⟩ := hsrc hsc
        have := List.all_eq_true.1 g2 m' g1'
        simp only [g3', Nat.beq_refl, Bool.not_true] at this
        cases this
    · rintro ⟨hik, hon2, hno⟩
      obtain ⟨m, hm⟩ := Option.isSome_iff_exists.1 (show (fnd new i).isSome = true from hon2)
      obtain ⟨g1, rfl⟩ := fnd_mem hm
      refine ⟨m, List.mem_filter.2 ⟨g1, List.all_eq_true.2 fun m' hm' => ?_⟩, rfl⟩
      cases hsr : m'.src with
      | none => rfl
      | some j =>
        have hne : j ≠ m.idx := fun e => by
          subst e
          have hlt : m'.idx < k := Classical.byContradiction fun hk => by
            have := (hcon m' (hmemL m' hm' hk)).1
            rw [hsr] at this; cases this
          exact hno m'.idx hlt (by show (fnd new m'.idx).bind _ = _; rw [fnd_of h3 hm']; exact hsr) hlt
        simp only [beq_f hne, Bool.not_false]
  · have hd2 : l.toArray.toList.drop k = l2 := by simpa using e2.symm
    rw [hd2, h5, hfla p (liveL new) fun m hm => (List.mem_filter.1 hm).1]
    refine h1 p fun m hm => ?_
    by_cases hlt : m.idx < k
    · have := hI m.idx hlt (hon hm)
      have e : (Mks.of new).I m.idx = m.I := by
        funext y
        show (match fnd new m.idx with | some m => m.I y | none => True) = _
        rw [fnd_of h3 hm]
      rwa [e] at this
    · exact (hcon m (hmemL m hm hlt)).2.2 _
  · unfold Live
    rw [List.mem_map]
    constructor
    · rintro ⟨m, hm, rfl⟩
      have := hL0i m hm
      exact ⟨fun h => by simp at h; omega, hon (hL0m m hm), fun c _ _ hx => nomatch (hrep c).symm.trans hx⟩
    · rintro ⟨hx, hon2, _⟩
      obtain ⟨m, hm⟩ := Option.isSome_iff_exists.1 (show (fnd new i).isSome = true from hon2)
      obtain ⟨g1, rfl⟩ := fnd_mem hm
      exact ⟨m, hmemL m g1 (fun hlt => nomatch (hrep _).symm.trans (hx (by simp; omega))), rfl⟩
  · exact hs.mem.grow ⟨hs.mem.below.os, hs.mem.below.tape, hs.mem.below.output, hs.mem.below.size, hs.mem.below.block⟩ (Nat.le_refl _) (fun _ _ => rfl)
  · have hk0 : ∀ m, m ≤ c → lk t (σ pt0 m) = lk t (σ pt0 0) := fun m => by
      induction m with
      | zero => intro _; rfl
      | succ m ih =>
        intro hm2
        have hml : m < l.length := by omega
        obtain ⟨T, _, g, _⟩ := hop m l[m] (by omega) (by simp [hml])
        rcases g with ⟨d, g1, _, g2⟩ | ⟨_, g2⟩
        · rw [g2, lk_cons, if_neg]
          · exact ih (by omega)
          · intro e
            have := h7 m (by omega) (by unfold Writes; simp [hml, g1, e])
            rw [hrep] at this; cases this
        · rw [g2]; exact ih (by omega)
    rw [hk0 c (Nat.le_refl _), h4] at hv
    have hst : Step w (L0.flatMap (fun m => m.O pt0) ++ objs) { w with drawn := w.drawn + 1 } (L0.flatMap (fun m => m.O pt0) ++ objs) := ⟨fun _ _ _ => rfl, fun _ _ h => h, fun _ _ _ rows _ _ h => ⟨⟨rows, h⟩, rfl⟩, Nat.le_refl _, fun h => h⟩
    exact (hs.env t v hv).step hst⟩
theorem aw_drawM (k : Nat) {id : Nat} {l l1 l2 : List Oper} {env : Env} (hm : P.follows .mixedOrders = true) (hok : drawOk l.toArray = true) (htl : tailOk l.toArray k = true) (hbl : Nat.blt l.length 1000000 = true) (hc : Cut k l l1 l2)
    (h : DM P w0 N l.toArray objs (fun L E => ∀ p : Pt, (∀ m ∈ L, m.I (p m.idx)) → AL P w0 N l.toArray Q l2 (E p) ((liveL L).flatMap (fun m => m.O p) ++ objs)) 0 [] l1 (fun _ => env)) : AW P w0 N (.region id l.toArray true) Q env objs :=
  aw_drawG [] k hm hok htl hbl hc ⟨by simp, .nil⟩ (by simp) h
/-- The same, where one object that was there before may be consumed (place 1000000). -/
theorem aw_drawC (k : Nat) {id : Nat} {l l1 l2 : List Oper} {env : Env} {x : Nat × Nat × TObj} (hm : P.follows .mixedOrders = true) (hok : drawOk l.toArray = true) (htl : tailOk l.toArray k = true) (hbl : Nat.blt l.length 1000000 = true) (hc : Cut k l l1 l2)
    (h : DM P w0 N l.toArray objs (fun L E => ∀ p : Pt, (∀ m ∈ L, m.I (p m.idx)) → AL P w0 N l.toArray Q l2 (E p) ((liveL L).flatMap (fun m => m.O p) ++ objs)) 0 [⟨1000000, fun _ => [x], none, fun _ => True⟩] l1 (fun _ => env)) : AW P w0 N (.region id l.toArray true) Q env (x :: objs) :=
  aw_drawG [⟨1000000, fun _ => [x], none, fun _ => True⟩] k hm hok htl hbl hc ⟨fun m hm => by simp only [List.mem_singleton] at hm; subst hm; exact .inr (Nat.le_refl _), List.pairwise_singleton _ _⟩ (fun m hm => by simp only [List.mem_singleton] at hm; subst hm; exact ⟨rfl, fun _ _ => rfl, fun _ => trivial⟩) h
end
end Go.Proofs.YthpdkhejeookhaaGreatDoor
/- The abstract walk, part 23: what makes memory in a region that draws its order. -/
namespace Go.Proofs.YthpdkhejeookhaaGreatDoor
open Go Go.RowKit
def Yu.a : Yu → Nat
  | .one a _ => a
  | _ => 0
def Yu.b : Yu → Nat
  | .one _ b => b
  | _ => 0
/-- How the places of a contract's result are written down. -/
class Enc (Y : Type) where
  enc : Y → Yu
  dec : Yu → Y
  eq : ∀ y, dec (enc y) = y
instance : Enc (Nat × Nat) := ⟨fun y => .one y.1 y.2, fun y => (y.a, y.b), fun _ => rfl⟩
instance : Enc (List (Nat × Nat)) := ⟨.many, fun y => match y with | .many l => l | _ => [], fun _ => rfl⟩
instance {A B : Type} [Enc A] [Enc B] : Enc (A × B) := ⟨fun y => .pair (Enc.enc y.1) (Enc.enc y.2), fun y => match y with | .pair a b => (Enc.dec a, Enc.dec b) | _ => (Enc.dec .no, Enc.dec .no), fun y => by simp [Enc.eq]⟩
section
variable {P : Program} {w0 : World} {N : Nat} {Q : Exit → Act → World → Prop} {objs R : Objs} {ops : Array Oper} {env : Env} {dd : Option Nat} {T0 : Nat} {pos : String} {af : Array Edge} {g : Option (Nat × Bool)}
theorem ev_mem {a : Act} {w : World} {l : List Operand} (h : ∀ x ∈ l, ∀ v, ev env x = some v → Rep w objs v (a.eval x)) {x : Operand} (hx : x ∈ l) {v : TV} (hv : ev env x = some v) : Rep w objs v (a.eval x) := h x hx v hv
theorem mk_alloc {T : TypeId} {zs : List TV} (hz : zeroOk P T = some zs) : MkW P w0 env ⟨dd, .alloc T, T0, pos, af, g⟩ [] R (fun _ => True) (fun y => [(y.a, y.b, .box zs)]) (fun y => .mp y.a y.b 0) := fun a w K Q hw _ hK =>
  alloc_wp rfl hz (by simpa using hw) fun ss b v w' h1 h2 h3 => hK (.one ss b) v w' trivial h2 h3 h1
theorem mk_lit {T : TypeId} {n m : Nat} {ps : List (Nat × Operand)} {rows : List (List TV)} (hT : P.underlying T = some (.slice (P.elem T))) (hI : (zeroOk P (P.elem T)).isSome = true) (hm : P.cellsOf (P.elem T) = m) (hm0 : Nat.blt 0 m = true) (hev : evL env ps 0 = some rows) (hn : rows.length = n) (hbig : Nat.ble (n * m) 16777216 = true) (hall : (rows.all fun r => Nat.beq r.length m) = true) :
    MkW P w0 env ⟨dd, .buildSlice T n ps.toArray, T0, pos, af, g⟩ [] R (fun _ => True) (fun y => [(y.a, y.b, .row m rows)]) (fun y => .ms y.a y.b 0 n) := fun a w K Q hw hop hK => by
  obtain ⟨ss, hf⟩ := site_new ([] ++ R)
  have hm0' : 0 < m := Nat.blt_eq ▸ hm0
  have hall' : ∀ r ∈ rows, r.length = m := fun r hr => Nat.eq_of_beq_eq_true (List.all_eq_true.1 hall r hr)
  have hst := fun cs => step_new hw cs (P.elem T) ss (.row m rows)
  obtain ⟨cs, h1, h2, h3⟩ := run_lit (o := ⟨dd, .buildSlice T n ps.toArray, T0, pos, af, g⟩) rfl hT hI hm hm0 hn hbig a hev hall' (fun p hp v hv => ev_mem hop (by simpa [Op.operands] using ⟨p.1, hp⟩) hv)
  unfold Oper.wp
  rw [h1]
  have hnm : n ≤ maxLen := by
    have := Nat.le_of_ble_eq_true hbig
    have h4 : n * 1 ≤ n * m := Nat.mul_le_mul_left _ hm0'
    simp only [maxLen]; omega
  have hb0 : w.heap.size ≠ 0 := Nat.ne_of_gt (Nat.lt_of_lt_of_le hw.pos hw.below.size)
  refine hK (.one ss w.heap.size) _ _ trivial (hw.newObj hf ⟨⟨hm0', h2.2⟩, hall', .inr ⟨hw.below.size, cs, P.elem T, n, heap_alloc_new w _, h2.1, by omega, hnm, fun j t hj => ?_⟩⟩) (hst cs) (.ms _ _ _ _ _ (.mk ⟨by simp [Yu.b], noMark_new hw #[] 0 ss _, _, _, rfl⟩ (fun m' rows' hm' => .inr ⟨hb0, 0, n, P.elem T, n * m, rfl, Nat.le_refl _, by unfold World.shape?; simp only [Yu.b]; rw [heap_alloc_new]; simp [h2.1], ?_, fun _ => by simp⟩) (fun h0 => absurd h0 hb0)))
  · obtain ⟨v, h4, h5⟩ := h3 j t hj
    exact ⟨v, h4, h5.step (hst cs)⟩
  · rcases List.mem_cons.1 hm' with he | hm'
    · simp only [Prod.mk.injEq, TObj.row.injEq] at he; rw [he.2.2.1]; simp
    · exact absurd (objs_lt hw hm') (Nat.lt_irrefl _)
theorem mk_append {T s b len n m : Nat} {x y : Operand} {f : Nat} {rows rows2 news : List (List TV)} (hx : ev env x = some (.ms s b 0 len)) (hy : ev env y = some (.sl f m news)) (hT : appOk P T m = true) (hl : rows.length = len) (hn : news.length = n) (hbig : len + n ≤ 1000000000) (hrows : rows ++ news = rows2) :
    MkW P w0 env ⟨dd, .call { callee := .builtin .append, args := #[x, y], argTypes := #[T, T] }, T0, pos, af, g⟩ [(s, b, .row m rows)] R (fun _ => True) (fun y => [(s, y.b, .row m rows2)]) (fun y => .ms s y.b 0 (len + n)) := fun a w K Q hw hop hK => by
  subst hrows
  subst hn
  have hu : ∀ b', Upd (s, b, .row m rows) (s, b', .row m (rows ++ news)) ([(s, b, .row m rows)] ++ R) ([(s, b', .row m (rows ++ news))] ++ R) := fun b' => .head R
  have hmem := (hu 0).mem
  have hex := ev_mem hop (x := x) (by simp [Op.operands, Call.operands]) hx
  have hey := ev_mem hop (x := y) (by simp [Op.operands, Call.operands]) hy
  obtain ⟨b', off', pre, v', w', hr, hE⟩ := app_core (P := P) (ty := T0) hw hmem hex hey hT (by omega) rfl hbig
  have hpre : pre = [] := List.eq_nil_of_length_eq_zero (by rw [hE.prelen]; exact hE.zero rfl)
  have hoff : off' = 0 := hE.zero rfl
  subst hpre; subst hoff
  obtain ⟨⟨hm0, hci⟩, hm, _⟩ := hw.obj s b _ hmem
  obtain ⟨_, _, _, _, _, g3, g4, _⟩ := rep_sl hey
  unfold Oper.wp
  rw [exec_append (o := ⟨dd, .call { callee := .builtin .append, args := #[x, y], argTypes := #[T, T] }, T0, pos, af, g⟩) rfl hr]
  have hst := step_upd (m := m) hw (hu b') hE.size hE.keep hE.blk (fun rows' _ => ⟨rows, rfl⟩) (fun m' rows' he => by simp only [TObj.row.injEq] at he; exact he.1.symm) hE.shape (by simp only [marker, ne_eq, Prod.mk.injEq, TObj.row.injEq]; omega)
  have hobj := hE.obj
  simp only [List.nil_append, List.drop_zero] at hobj
  rw [← hl, List.take_length] at hobj
  refine hK (.one s b') v' w' trivial (hw.upd (hu b') hE.below hE.keep hE.blk hst ⟨⟨hm0, fun t ht => ?_⟩, fun r hr => ?_, hobj.imp id fun ⟨h1, cur, e, cap, h2, h3, h4, h5, h6⟩ => ⟨h1, cur, e, cap, h2, h3, h4, h5, fun j t hj => ?_⟩⟩) hst (.ms s b' _ _ _ (.mk ⟨hE.lt, fun hm' => hw.noMark (hst.mark hm'), ?_⟩ (fun m' rows' hm' => ?_) (fun h0 => ?_)))
  · simp only [List.flatten_append, List.mem_append] at ht
    rcases ht with ht | ht
    · exact hci t ht
    · exact g4 t ht
  · simp only [List.mem_append] at hr
    rcases hr with hr | hr
    · exact hm r hr
    · exact g3 r hr
  · rcases hE.val with ⟨_, _, h0, h1⟩ | ⟨_, q, c, e, k, h1, _⟩
    · exact ⟨none, 0, by rw [h0]; exact h1⟩
    · exact ⟨_, _, h1⟩
  · rcases (hu b').other hw.sites _ hm' with he | ⟨_, hne, _⟩
    · simp only [Prod.mk.injEq, TObj.row.injEq] at he
      obtain ⟨_, _, rfl, _⟩ := he
      exact hE.val
    · exact absurd rfl hne
  · rcases hE.val with ⟨_, h1, h2, h3⟩ | ⟨h1, _⟩
    · exact ⟨h1, h2, h3⟩
    · exact absurd h0 h1
  · obtain ⟨u, p1, p2⟩ := h6 j t hj
    exact ⟨u, p1, p2.step hst⟩
theorem View.mono {objs' : Objs} (hs : ∀ x ∈ objs, x ∈ objs') {t t' : TV} (h : View objs t t') : View objs' t t' := by
  induction h with
  | same t => exact .same t
  | nils m => exact .nils m
  | ms s b off len m rows live rows' hm hle hlive hl h ih => exact .ms s b off len m rows live rows' (hs _ hm) hle hlive hl ih
  | mp s b off cells l' hm hl h ih => exact .mp s b off cells l' (hs _ hm) hl ih
  | me s b m k j rows r l' hm hr hl h ih => exact .me s b m k j rows r l' (hs _ hm) hr hl ih
  | agg l l' hl h ih => exact .agg l l' hl ih
  | sl f m rows rows' hl h ih => exact .sl f m rows rows' hl ih
theorem Args.mono {objs' : Objs} (hs : ∀ x ∈ objs, x ∈ objs') {xs : List Operand} {ts : List TV} (h : Args env objs xs ts) : Args env objs' xs ts := by
  induction h with
  | nil => exact .nil
  | cons x xs t t' ts h hv hr ih => exact .cons x xs t t' ts h (hv.mono hs) ih
theorem mk_call {G : World → Prop} {f : Nat} {xs : List Operand} {ts : Array TypeId} {args : List TV} {Y : Type} [Enc Y] {I : Y → Prop} {O : Y → Objs} {r : Y → TV} (hc : callB P f = true) (hct : CtM P G f args [] I O r) (hargs : Args env objs xs args) (hR : ∀ x ∈ objs, x ∈ R)
    (hG : G w0) (hst : Stable G) (hnew : ∀ y, I y → (∀ s b o, (s, b, o) ∈ O y → ObjNew (O y) o) ∧ NewOk (O y) (r y)) :
    MkW P w0 env ⟨dd, .call { callee := .value (.func f), args := xs.toArray, argTypes := ts }, T0, pos, af, g⟩ [] R (fun y => I (Enc.dec y)) (fun y => O (Enc.dec y)) (fun y => r (Enc.dec y)) := fun a w K Q hw0 hop hK => by
  have hw : SimW w0 R w := by simpa using hw0
  obtain ⟨h1, h2⟩ := args_rep hw (a := a) (hargs.mono hR) (fun x hx v hv => ev_mem hop (by simp only [Op.operands, Call.operands]; simp [hx]) hv)
  unfold Oper.wp
  rw [exec_call (o := ⟨dd, .call { callee := .value (.func f), args := xs.toArray, argTypes := ts }, T0, pos, af, g⟩) rfl hc]
  have hwv := simW_voids hw
  refine (hct w w (voids R) [] (xs.map a.eval).toArray (hst.below _ _ hG hw.below) (by simpa using hwv) (.gh _ _ (by simp)) (by simpa using h1) (fun i t v ht hv => ?_)).mono ?_
  · exact (h2 i t v ht (by simpa using hv)).step (by simpa using step_voids w R)
  · rintro e w' ⟨v, y, rfl, hI, hw', _, hr⟩
    obtain ⟨n1, n2⟩ := hnew y hI
    have hst' := new_step hw hw' n1
    exact hK (Enc.enc y) v w' (by dsimp only; rw [Enc.eq]; exact hI) (by dsimp only; rw [Enc.eq]; exact new_simW hw hw' n1) (by dsimp only; rw [Enc.eq]; exact hst') (by dsimp only; rw [Enc.eq]; exact new_rep hw hw' n1 n2 hr)
end
end Go.Proofs.YthpdkhejeookhaaGreatDoor
/- The abstract walk, part 24: the steps of a drawn region that makes memory. Written by gen_eng3.py. -/
namespace Go.Proofs.YthpdkhejeookhaaGreatDoor
open Go Go.RowKit
theorem ind1 {α : Type} {ops : Array Oper} {c : Nat} (f : Yu → α) : IndT ops c (fun p => f (p c)) := fun p p' h => by
  show f (p c) = f (p' c)
  rw [h c (.inl rfl)]
theorem srcO_none (L : List Mki) (p : Pt) : srcO L none p = [] := rfl
theorem ah_ {A : Prop} (h : A := by (first | exact .inl rfl | exact .inr ⟨by decide, by kernel_rfl⟩ | fail)) : A := h
theorem ind_ {A : Prop} (h : A := by (first | (intro p p' h; rfl) | (intro p p' h; (try dsimp only); (repeat rw [h _ ah_])) | fail)) : A := h
theorem inds_ {A : Prop} (h : A := by (first | (intro p p' h; rfl) | (intro p p' h; (try dsimp only); (repeat rw [h _ (by decide) ah_])) | fail)) : A := h
section
variable {P : Program} {w0 : World} {N : Nat} {Q : Exit → Act → World → Prop} {objs : Objs} {ops : Array Oper} {K : List Mki → (Pt → Env) → Prop} {c : Nat} {L : List Mki} {rest : List Oper} {E : Pt → Env} {d T0 : Nat} {pos : String} {af : Array Edge}
theorem m_q {op : Op} {T : Pt → TV} (hy : ∀ p R, (∀ x ∈ objs, x ∈ R) → Yd P w0 (E p) R ⟨some d, op, T0, pos, af, none⟩ (T p)) (hN : Nat.blt d N = true) (hi : IndT ops c T) (h : DM P w0 N ops objs K (c + 1) L rest (fun p => (d, T p) :: E p)) : DM P w0 N ops objs K c L (⟨some d, op, T0, pos, af, none⟩ :: rest) E :=
  .run c L _ rest E d T rfl hN rfl hi (fun p R hR => (hy p R hR).go) h
theorem m_litq {T n m : Nat} {ps : List (Nat × Operand)} {rows : Pt → List (List TV)} (hev : ∀ p, evL (E p) ps 0 = some (rows p)) (hN : Nat.blt d N = true) (hT : P.underlying T = some (.slice (P.elem T))) (hI : (zeroOk P (P.elem T)).isSome = true) (_hs : esT T = some m) (hm : P.cellsOf (P.elem T) = m) (hm0 : Nat.blt 0 m = true) (hn : ∀ p, (rows p).length = n) (hbig : Nat.ble (n * m) 16777216 = true) (hall : ∀ p, ((rows p).all fun r => Nat.beq r.length m) = true) (hi : IndT ops c rows)
    (h : DM P w0 N ops objs K (c + 1) L rest (fun p => (d, .sl w0.heap.size m (rows p)) :: E p)) : DM P w0 N ops objs K c L (⟨some d, .buildSlice T n ps.toArray, T0, pos, af, none⟩ :: rest) E :=
  .run c L _ rest E d (fun p => .sl w0.heap.size m (rows p)) rfl hN rfl (fun p p' h => by show TV.sl _ _ (rows p) = _; rw [hi p p' h]) (fun p R hR => y_lit rfl hT hI hm hm0 (hev p) (hn p) hbig (hall p)) h
theorem m_build {T : TypeId} {ps : List (Nat × Operand)} {zs : List TV} {l : Pt → List TV} (he : zT T = zs) (hb : ∀ p, TB P (E p) T ps zs (l p)) (hN : Nat.blt d N = true) (hz : zeroOk P T = some (zT T)) (hp : (placesOf P T).isSome = true) (hi : IndT ops c l)
    (h : DM P w0 N ops objs K (c + 1) L rest (fun p => (d, .agg (l p)) :: E p)) : DM P w0 N ops objs K c L (⟨some d, .build T ps.toArray, T0, pos, af, none⟩ :: rest) E :=
  .run c L _ rest E d (fun p => .agg (l p)) rfl hN rfl (fun p p' h => by show TV.agg (l p) = _; rw [hi p p' h]) (fun p R hR => y_build rfl hz hp (by rw [he]; exact hb p)) h
theorem m_alloc {T : TypeId} {zs : List TV} (hN : Nat.blt d N = true) (_he : zT T = zs) (hz : zeroOk P T = some zs)
    (h : DM P w0 N ops objs K (c + 1) (⟨c, fun p => [((p c).a, (p c).b, .box zs)], none, fun _ => True⟩ :: L) rest (fun p => (d, .mp (p c).a (p c).b 0) :: E p)) : DM P w0 N ops objs K c L (⟨some d, .alloc T, T0, pos, af, none⟩ :: rest) E :=
  .make c L _ rest E d (fun p => [((p c).a, (p c).b, .box zs)]) none (fun _ => True) (fun p => .mp (p c).a (p c).b 0) rfl hN rfl (ind1 fun y => TV.mp y.a y.b 0) (ind1 fun y => [(y.a, y.b, TObj.box zs)]) (fun _ h => by cases h) (fun p R hR => by
    have := mk_alloc (P := P) (w0 := w0) (env := E p) (R := R) (dd := some d) (T0 := T0) (pos := pos) (af := af) (g := none) hz
    simpa only [Pt.put_eq, srcO_none] using this) h
theorem m_own {T n m : Nat} {ps : List (Nat × Operand)} {rows : List (List TV)} (hev : ∀ p, evL (E p) ps 0 = some rows) (hN : Nat.blt d N = true) (hT : P.underlying T = some (.slice (P.elem T))) (hI : (zeroOk P (P.elem T)).isSome = true) (_hs : esT T = some m) (hm : P.cellsOf (P.elem T) = m) (hm0 : Nat.blt 0 m = true) (hn : rows.length = n) (hbig : Nat.ble (n * m) 16777216 = true) (hall : (rows.all fun r => Nat.beq r.length m) = true)
    (h : DM P w0 N ops objs K (c + 1) (⟨c, fun p => [((p c).a, (p c).b, .row m rows)], none, fun _ => True⟩ :: L) rest (fun p => (d, .ms (p c).a (p c).b 0 n) :: E p)) : DM P w0 N ops objs K c L (⟨some d, .buildSlice T n ps.toArray, T0, pos, af, none⟩ :: rest) E :=
  .make c L _ rest E d (fun p => [((p c).a, (p c).b, .row m rows)]) none (fun _ => True) (fun p => .ms (p c).a (p c).b 0 n) rfl hN rfl (ind1 fun y => TV.ms y.a y.b 0 n) (ind1 fun y => [(y.a, y.b, TObj.row m rows)]) (fun _ h => by cases h) (fun p R hR => by
    have := mk_lit (P := P) (w0 := w0) (env := E p) (R := R) (dd := some d) (T0 := T0) (pos := pos) (af := af) (g := none) hT hI hm hm0 (hev p) hn hbig hall
    simpa only [Pt.put_eq, srcO_none] using this) h
theorem m_app {T i len n m f : Nat} {x y : Operand} {rows rows2 news : List (List TV)} (hx : ∀ p, ev (E p) x = some (.ms (p i).a (p i).b 0 len)) (hy : ∀ p, ev (E p) y = some (.sl f m news)) (hN : Nat.blt d N = true) (hT : appOk P T m = true) (hsr : ∀ p, srcO L (some i) p = [((p i).a, (p i).b, .row m rows)]) (hl : rows.length = len) (hn : news.length = n) (hbig : len + n ≤ 1000000000) (hrows : rows ++ news = rows2)
    (hah : i ≠ c ∧ Ahead ops c i) (hfn : (fnd L i).isSome = true) (huse : ∀ m ∈ L, m.src ≠ some i)
    (h : DM P w0 N ops objs K (c + 1) (⟨c, fun p => [((p i).a, (p c).b, .row m rows2)], some i, fun _ => True⟩ :: L) rest (fun p => (d, .ms (p i).a (p c).b 0 (len + n)) :: E p)) : DM P w0 N ops objs K c L (⟨some d, .call { callee := .builtin .append, args := #[x, y], argTypes := #[T, T] }, T0, pos, af, none⟩ :: rest) E :=
  .make c L _ rest E d (fun p => [((p i).a, (p c).b, .row m rows2)]) (some i) (fun _ => True) (fun p => .ms (p i).a (p c).b 0 (len + n)) rfl hN rfl (fun p p' h => by show TV.ms (p i).a (p c).b 0 _ = TV.ms (p' i).a (p' c).b 0 _; rw [h c (.inl rfl), h i hah.2]) (fun p p' h => by show [((p i).a, (p c).b, TObj.row m rows2)] = [((p' i).a, (p' c).b, TObj.row m rows2)]; rw [h c (.inl rfl), h i hah.2])
    (fun j hj => by cases hj; exact ⟨fun _ => hah.2, hfn, huse⟩) (fun p R hR => by
    have := mk_append (P := P) (w0 := w0) (env := E p) (R := R) (dd := some d) (T0 := T0) (pos := pos) (af := af) (g := none) (hx p) (hy p) hT hl hn hbig hrows
    rw [hsr p]
    simpa only [Pt.put_eq, Pt.put_ne hah.1] using this) h
theorem m_app0 {T i n m f : Nat} {x y : Operand} {news : List (List TV)} (hx : ∀ p, ev (E p) x = some (.ms (p i).a (p i).b 0 0)) (hy : ∀ p, ev (E p) y = some (.sl f m news)) (hN : Nat.blt d N = true) (hT : appOk P T m = true) (hsr : ∀ p, srcO L (some i) p = [((p i).a, (p i).b, .row m [])]) (hn : news.length = n) (hbig : n ≤ 1000000000)
    (hah : i ≠ c ∧ Ahead ops c i) (hfn : (fnd L i).isSome = true) (huse : ∀ m ∈ L, m.src ≠ some i)
    (h : DM P w0 N ops objs K (c + 1) (⟨c, fun p => [((p i).a, (p c).b, .row m news)], some i, fun _ => True⟩ :: L) rest (fun p => (d, .ms (p i).a (p c).b 0 n) :: E p)) : DM P w0 N ops objs K c L (⟨some d, .call { callee := .builtin .append, args := #[x, y], argTypes := #[T, T] }, T0, pos, af, none⟩ :: rest) E :=
  m_app hx hy hN hT hsr rfl hn (by omega) (List.nil_append _) hah hfn huse (by simpa only [Nat.zero_add] using h)
theorem m_app1 {T s b len n m f : Nat} {x y : Operand} {rows : List (List TV)} {news rows2 : Pt → List (List TV)} (hx : ∀ p, ev (E p) x = some (.ms s b 0 len)) (hy : ∀ p, ev (E p) y = some (.sl f m (news p))) (hN : Nat.blt d N = true) (hT : appOk P T m = true) (hsr : ∀ p, srcO L (some 1000000) p = [(s, b, .row m rows)]) (hl : rows.length = len) (hn : ∀ p, (news p).length = n) (hbig : len + n ≤ 1000000000) (hrows : ∀ p, rows ++ news p = rows2 p)
    (hcs : ops.size < 1000000 ∧ c < 1000000) (hi : ∀ p p' : Pt, (∀ m, m ≠ c → Ahead ops c m → p m = p' m) → rows2 p = rows2 p') (hfn : (fnd L 1000000).isSome = true) (huse : ∀ m ∈ L, m.src ≠ some 1000000)
    (h : DM P w0 N ops objs K (c + 1) (⟨c, fun p => [(s, (p c).b, .row m (rows2 p))], some 1000000, fun _ => True⟩ :: L) rest (fun p => (d, .ms s (p c).b 0 (len + n)) :: E p)) : DM P w0 N ops objs K c L (⟨some d, .call { callee := .builtin .append, args := #[x, y], argTypes := #[T, T] }, T0, pos, af, none⟩ :: rest) E :=
  .make c L _ rest E d (fun p => [(s, (p c).b, .row m (rows2 p))]) (some 1000000) (fun _ => True) (fun p => .ms s (p c).b 0 (len + n)) rfl hN rfl (fun p p' h => by show TV.ms s (p c).b 0 _ = TV.ms s (p' c).b 0 _; rw [h c (.inl rfl)]) (fun p p' h => by show [(s, (p c).b, TObj.row m (rows2 p))] = [(s, (p' c).b, TObj.row m (rows2 p'))]; rw [h c (.inl rfl), hi p p' fun m _ ha => h m ha])
    (fun j hj => by cases hj; exact ⟨fun h => by omega, hfn, huse⟩) (fun p R hR => by
    have := mk_append (P := P) (w0 := w0) (env := E p) (R := R) (dd := some d) (T0 := T0) (pos := pos) (af := af) (g := none) (hx p) (hy p) hT hl (hn p) hbig (hrows p)
    rw [hsr p]
    have hr2 : ∀ y, rows2 (p.put c y) = rows2 p := fun y => hi _ _ fun m hne _ => Pt.put_ne hne
    simpa only [Pt.put_eq, hr2] using this) h
theorem m_call {G : World → Prop} {f : Nat} {xs : List Operand} {ts : Array TypeId} {args : List TV} {Y : Type} [Enc Y] {I : Y → Prop} {O : Y → Objs} {r : Y → TV} (hG : G w0) (hst : Stable G) (hct : CtM P G f args [] I O r) (hN : Nat.blt d N = true) (hc : callB P f = true) (hargs : ∀ p, Args (E p) objs xs args) (hnew : ∀ y, I y → (∀ s b o, (s, b, o) ∈ O y → ObjNew (O y) o) ∧ NewOk (O y) (r y))
    (h : DM P w0 N ops objs K (c + 1) (⟨c, fun p => O (Enc.dec (p c)), none, fun y => I (Enc.dec y)⟩ :: L) rest (fun p => (d, r (Enc.dec (p c))) :: E p)) : DM P w0 N ops objs K c L (⟨some d, .call { callee := .value (.func f), args := xs.toArray, argTypes := ts }, T0, pos, af, none⟩ :: rest) E :=
  .make c L _ rest E d (fun p => O (Enc.dec (p c))) none (fun y => I (Enc.dec y)) (fun p => r (Enc.dec (p c))) rfl hN rfl (ind1 fun y => r (Enc.dec y)) (ind1 fun y => O (Enc.dec y)) (fun _ h => by cases h) (fun p R hR => by
    have := mk_call (P := P) (w0 := w0) (env := E p) (R := R) (dd := some d) (T0 := T0) (pos := pos) (af := af) (g := none) (ts := ts) hc hct (hargs p) hR hG hst hnew
    simpa only [Pt.put_eq, srcO_none] using this) h
end
theorem o_append0 {P : Program} {w0 : World} {N : Nat} {Q : Exit → Act → World → Prop} {env : Env} {objs : Objs} {ops : Array Oper} {rest : List Oper} {d T0 : Nat} {pos : String} {af : Array Edge} {g : Option (Nat × Bool)} {objsOf : Nat → Objs} {T s b n m : Nat} {x y : Operand} {f : Nat} {news : List (List TV)} (hN : Nat.blt d N = true) (hx : ev env x = some (.ms s b 0 0)) (hy : ev env y = some (.sl f m news)) (hT : appOk P T m = true) (hm : (s, b, TObj.row m []) ∈ objs) (hn : news.length = n) (hbig : n ≤ 1000000000) (hu : ∀ b2, Upd (s, b, .row m []) (s, b2, .row m news) objs (objsOf b2)) (h : ∀ b2, AL P w0 N ops Q rest ((d, .ms s b2 0 n) :: env) (objsOf b2)) : AO P w0 N ops Q ⟨some d, .call { callee := .builtin .append, args := #[x, y], argTypes := #[T, T] }, T0, pos, af, g⟩ rest env objs :=
  o_append hN hx hy hT hm rfl hn (by omega) (List.nil_append _) hu (fun b2 => by simpa only [Nat.zero_add] using h b2)
theorem ym_ {A : Prop} (h : A := by (first | (intro p R hR; (try dsimp only); (first | ((with_reducible first | apply Y_move | apply Y_assign | apply Y_nilCheck_cp); rfl) | ((with_reducible apply Y_pick_t); rfl; (with_reducible rfl); rfl) | ((with_reducible apply Y_pick_f); rfl; (with_reducible rfl); rfl) | ((with_reducible apply Y_load_me); rfl; kernel_rfl; rfl; (exact hR _ mm_); (first | (with_reducible assumption) | (refine row_map ?_; omega) | (refine set_row ?_; simp only [List.length_set, List.length_map]; omega) | exact rfl | assumption); rfl) | ((with_reducible apply Y_load_cp); rfl; kernel_rfl; rfl; rfl) | ((with_reducible apply Y_load_mp); rfl; kernel_rfl; rfl; (exact hR _ mm_); rfl) | ((with_reducible apply Y_fieldAddr); rfl; kernel_rfl; rfl) | ((with_reducible apply Y_indexAddr); rfl; rfl; kernel_rfl; kernel_rfl; kernel_rfl; rfl; (first | (with_reducible first | exact rfl | exact nat0 | exact nat1 | exact nat2 | exact nat3) | exact rfl | exact nat_sub (by omega) | omega); (first | (with_reducible assumption) | (refine row_map ?_; omega) | (refine set_row ?_; simp only [List.length_set, List.length_map]; omega) | exact rfl | assumption)) | ((with_reducible apply Y_indexAddr_ms); rfl; rfl; (exact hR _ mm_); kernel_rfl; kernel_rfl; kernel_rfl; (first | (with_reducible first | exact rfl | exact nat0 | exact nat1 | exact nat2 | exact nat3) | exact rfl | exact nat_sub (by omega) | omega); (first | assumption | omega); (first | with_reducible exact Nat.zero_add _ | rfl)) | ((with_reducible apply Y_len_s); rfl; kernel_rfl) | ((with_reducible apply Y_len_sl); rfl; kernel_rfl; (first | exact List.length_map _ | rfl)) | ((with_reducible apply Y_len_ms); rfl; kernel_rfl) | ((with_reducible apply Y_len_nils); rfl; kernel_rfl) | ((with_reducible first | apply Y_eql | apply Y_neq | apply Y_lss | apply Y_leq | apply Y_gtr | apply Y_geq | apply Y_extract | apply Y_or | apply Y_and); rfl; rfl) | ((with_reducible first | apply Y_add | apply Y_sub | apply Y_mul); rfl; rfl; (first | ((with_reducible first | refine w_n1 ?_ | refine w_n2 ?_ | refine w_nn ?_ | refine w_nm1 ?_ | refine IntWalk.i64_in _ ?_ | refine w_u8 _ ?_); omega) | ((with_reducible refine IntWalk.i64_in _ ?_); omega) | (with_reducible assumption) | exact rfl)) | ((with_reducible apply Y_index_s); rfl; rfl; kernel_rfl; (first | (with_reducible first | exact rfl | exact nat0 | exact nat1 | exact nat2 | exact nat3) | exact rfl | exact nat_sub (by omega) | omega); (first | assumption | omega)) | ((with_reducible apply Y_not_t); rfl; (with_reducible rfl)) | ((with_reducible apply Y_not_f); rfl; (with_reducible rfl)) | ((with_reducible apply Y_not); rfl; (with_reducible rfl)) | ((with_reducible apply Y_not_b); rfl; (with_reducible rfl)) | ((with_reducible first | apply Y_eql_s | apply Y_neq_s); rfl; rfl) | ((with_reducible apply Y_conv_int); rfl; rfl; kernel_rfl; kernel_rfl; (first | ((with_reducible first | refine w_n1 ?_ | refine w_n2 ?_ | refine w_nn ?_ | refine w_nm1 ?_ | refine IntWalk.i64_in _ ?_ | refine w_u8 _ ?_); omega) | ((with_reducible refine IntWalk.i64_in _ ?_); omega) | (with_reducible assumption) | exact rfl)) | ((with_reducible apply Y_nilCheck_mp); rfl; (exact hR _ mm_)) | ((with_reducible apply Y_nilCheck_me); rfl; (exact hR _ mm_); (first | (with_reducible assumption) | (refine row_map ?_; omega) | (refine set_row ?_; simp only [List.length_set, List.length_map]; omega) | exact rfl | assumption)) | ((with_reducible apply Y_load_agg_me); rfl; kernel_rfl; kernel_rfl; kernel_rfl; rfl; (exact hR _ mm_); (first | (with_reducible assumption) | (refine row_map ?_; omega) | (refine set_row ?_; simp only [List.length_set, List.length_map]; omega) | exact rfl | assumption); (first | exact .zero _ | exact .succ _ _ _ _ (.zero _) | exact .succ _ _ _ _ (.succ _ _ _ _ (.zero _)) | exact .succ _ _ _ _ (.succ _ _ _ _ (.succ _ _ _ _ (.zero _))) | exact .succ _ _ _ _ (.succ _ _ _ _ (.succ _ _ _ _ (.succ _ _ _ _ (.zero _)))))) | ((with_reducible apply Y_load_agg_cp); rfl; kernel_rfl; kernel_rfl; kernel_rfl; rfl; (first | exact .zero _ | exact .succ _ _ _ _ (.zero _) | exact .succ _ _ _ _ (.succ _ _ _ _ (.zero _)) | exact .succ _ _ _ _ (.succ _ _ _ _ (.succ _ _ _ _ (.zero _))) | exact .succ _ _ _ _ (.succ _ _ _ _ (.succ _ _ _ _ (.succ _ _ _ _ (.zero _)))))) | ((with_reducible apply Y_load_agg_mp); rfl; kernel_rfl; kernel_rfl; kernel_rfl; rfl; (exact hR _ mm_); (first | exact .zero _ | exact .succ _ _ _ _ (.zero _) | exact .succ _ _ _ _ (.succ _ _ _ _ (.zero _)) | exact .succ _ _ _ _ (.succ _ _ _ _ (.succ _ _ _ _ (.zero _))) | exact .succ _ _ _ _ (.succ _ _ _ _ (.succ _ _ _ _ (.succ _ _ _ _ (.zero _)))))) | ((with_reducible apply Y_field); rfl; kernel_rfl; kernel_rfl; rfl) | ((with_reducible apply Y_slice_lh); rfl; rfl; rfl; kernel_rfl; (first | (with_reducible first | exact rfl | exact nat0 | exact nat1 | exact nat2 | exact nat3) | exact rfl | exact nat_sub (by omega) | omega); (first | (with_reducible first | exact rfl | exact nat0 | exact nat1 | exact nat2 | exact nat3) | exact rfl | exact nat_sub (by omega) | omega); (first | assumption | omega); (first | assumption | omega)) | ((with_reducible apply Y_slice_l); rfl; rfl; kernel_rfl; (first | (with_reducible first | exact rfl | exact nat0 | exact nat1 | exact nat2 | exact nat3) | exact rfl | exact nat_sub (by omega) | omega); (first | assumption | omega)) | ((with_reducible apply Y_slice_h); rfl; rfl; kernel_rfl; (first | (with_reducible first | exact rfl | exact nat0 | exact nat1 | exact nat2 | exact nat3) | exact rfl | exact nat_sub (by omega) | omega); (first | assumption | omega)) | ((with_reducible apply Y_quo); rfl; rfl; omega; (first | ((with_reducible first | refine w_n1 ?_ | refine w_n2 ?_ | refine w_nn ?_ | refine w_nm1 ?_ | refine IntWalk.i64_in _ ?_ | refine w_u8 _ ?_); omega) | ((with_reducible refine IntWalk.i64_in _ ?_); omega) | (with_reducible assumption) | exact rfl)) | ((with_reducible apply Y_rem); rfl; rfl; omega; exact rfl) | ((with_reducible apply Y_add_s); rfl; rfl; (first | assumption | omega)) | ((with_reducible first | apply Y_eql_b | apply Y_neq_b); rfl; rfl; kernel_rfl) | ((with_reducible apply Y_shl); rfl; rfl; omega) | ((with_reducible first | apply Y_eql_a | apply Y_neq_a); rfl; rfl; kernel_rfl))) | fail)) : A := h
end Go.Proofs.YthpdkhejeookhaaGreatDoor
/- Nested memory that the call owns: the laws' copies of a code base. Written by gen_ne.py. -/
namespace Go.Proofs.YthpdkhejeookhaaGreatDoor
set_option maxRecDepth 20000
open Go Go.RowKit
/-- Rows whose elements hold rows of their own: a place (site, block) for each. -/
def nR {α : Type} (mk : α → Nat × Nat → List TV) (l : List α) (ps : List (Nat × Nat)) : List (List TV) := List.zipWith mk l ps
def nO {α : Type} (ob : α → TObj) (l : List α) (ps : List (Nat × Nat)) : Objs := List.zipWith (fun x p => (p.1, p.2, ob x)) l ps
theorem nR_len {α : Type} (mk : α → Nat × Nat → List TV) {l : List α} {ps : List (Nat × Nat)} (h : ps.length = l.length) : (nR mk l ps).length = l.length := by simp [nR, h]
theorem takeSnoc {α : Type} {l : List α} {i : Nat} (h : i < l.length) : l.take (i + 1) = l.take i ++ [l[i]] := by rw [List.take_add_one, List.getElem?_eq_getElem h]; rfl
theorem nO_snoc {α : Type} (ob : α → TObj) {l : List α} {ps : List (Nat × Nat)} {i : Nat} (h : i < l.length) (hp : ps.length = i) (p : Nat × Nat) : nO ob (l.take (i + 1)) (ps ++ [p]) = nO ob (l.take i) ps ++ [(p.1, p.2, ob l[i])] := by
  unfold nO
  rw [takeSnoc h, List.zipWith_append (by simp; omega)]; rfl
theorem nR_set {α : Type} (mk : α → Nat × Nat → List TV) (z : List TV) {l : List α} {ps : List (Nat × Nat)} {i : Nat} (h : i < l.length) (hp : ps.length = i) (p : Nat × Nat) :
    (nR mk (l.take i) ps ++ List.replicate (l.length - i) z)[i]? = some z ∧ (nR mk (l.take i) ps ++ List.replicate (l.length - i) z).set i (mk l[i] p) = nR mk (l.take (i + 1)) (ps ++ [p]) ++ List.replicate (l.length - (i + 1)) z := by
  have hl : (nR mk (l.take i) ps).length = i := by simp [nR]; omega
  have e : l.length - i = (l.length - (i + 1)) + 1 := by omega
  refine ⟨?_, ?_⟩
  · rw [List.getElem?_append_right (by omega), hl, Nat.sub_self, e, List.replicate_succ]; rfl
  · rw [List.set_append_right _ _ (by omega), hl, Nat.sub_self, e, List.replicate_succ, List.set_cons_zero]
    unfold nR
    rw [takeSnoc h, List.zipWith_append (by simp; omega), List.append_assoc]; rfl
theorem pick_snoc (a z : Nat × Nat × TObj) (T R : Objs) : Pick (a :: ((T ++ [z]) ++ R)) (z :: a :: (T ++ R)) := .perm (by
  have h : ((T ++ [z]) ++ R).Perm (z :: (T ++ R)) := by rw [List.append_assoc]; exact List.perm_middle
  exact (h.cons a).trans (List.Perm.swap z a _))
def clsMk (x : TClassInfo) (p : Nat × Nat) : List TV := [.str x.name, .int .i64 x.parent, .ms p.1 p.2 0 x.fields.length]
def clsOb (x : TClassInfo) : TObj := .row 1 (strR x.fields)
def codMk (x : TCode) (p : Nat × Nat) : List TV := [.bool x.block, .int .i64 x.params, .int .i64 x.slots, .ms p.1 p.2 0 x.instrs.length]
def codOb (x : TCode) : TObj := .row 4 (x.instrs.map (TInstr.tw 0))
section
variable {G : World → Prop}
theorem toStringS_own (_hst : Stable G) (lo : Nat) (l : List ByteArray) (hn : l.length ≤ 1048576) : CtM Tryz.prog G 167 [.sl lo 1 (strR l)] [] (fun _ : Nat × Nat => True) (fun y => [(y.1, y.2, .row 1 (strR l))]) (fun y => .ms y.1 y.2 0 l.length) := by
  refine ctm_enter Tryz.func167 rfl Tryz.ntmps167 rfl rfl rfl fun w0 R gs objsR hG hR => ?_
  obtain rfl := hR.inv0
  clear hR
  have hlen := strR_len l
  have h0 := copyR_zero (fun s : ByteArray => [TV.str s]) [.str ⟨#[]⟩] l
  repeat' (first | ((with_reducible apply o_y); exact y_; rfl) | (refine e_make ?_; intro ss bb) | with_reducible refine al_none rfl ?_ | (with_reducible first | apply aw_seq | apply aw_region | apply al_nil | apply aq_then | apply aw_block))
  generalize ss = so; generalize bb = bo
  apply aw_loopk (X := Nat) [0, 3, 1000000] (fun i => [(4, .int .i64 (i : Int))]) (fun i => (so, bo, .row 1 (copyR (fun s : ByteArray => [TV.str s]) [.str ⟨#[]⟩] l i)) :: R) (fun i => i ≤ l.length) (fun i => l.length - i) 0 (Nat.zero_le _)
  exact kp_; (repeat (first | exact Weak.envNil | refine Weak.envCons we_ ?_))
  · rw [← h0]; exact .refl _
  intro i hi
  try dsimp only
  by_cases hlt : i < l.length
  · obtain ⟨hrow, hset⟩ := copyR_set (fun s : ByteArray => [TV.str s]) [.str ⟨#[]⟩] hlt
    have hra := strR_row hlt
    generalize l[i] = x at hset hra
    try dsimp only at hset
    repeat' (first | ((with_reducible apply o_y); exact y_; rfl) | refine e_store ?_ | with_reducible refine al_none rfl ?_ | (with_reducible first | apply aw_seq | apply aw_region | apply al_nil | apply aq_then | apply aw_block | apply aw_skip | apply aq_block) | (refine aw_cond_dt rfl rr_ dd_ ?_))
    refine aq_round (i + 1) (by omega) (by omega) (.of _ nw_ od_ (by rw [← hset]; exact .refl _))
  · obtain rfl : i = l.length := by omega
    rw [copyR_full]
    repeat' (first | ((with_reducible apply o_y); exact y_; rfl) | with_reducible refine al_none rfl ?_ | (with_reducible first | apply aw_seq | apply aw_region | apply al_nil | apply aq_then | apply aw_exit | apply aw_ret | apply aq_block_hit | apply aq_then_exit) | (refine aw_cond_df rfl rr_ dd_ ?_))
    exact aq_retm1 x_ rfl (so, bo) trivial rfl (.cons _ _ _ _ (.nil R)) pk_ (.tmp _ _ rfl) rfl
theorem toInstrS_own (hst : Stable G) (lo : Nat) (l : List TInstr) (hb : l.length ≤ 1048576 ∧ ∀ y ∈ l, TInstr.small 1048576 y) : CtM Tryz.prog G 186 [.sl lo 4 (l.map (TInstr.tw lo))] [] (fun _ : Nat × Nat => True) (fun y => [(y.1, y.2, .row 4 (l.map (TInstr.tw 0)))]) (fun y => .ms y.1 y.2 0 l.length) := by
  refine ctm_enter Tryz.func186 rfl Tryz.ntmps186 rfl rfl rfl fun w0 R gs objsR hG hR => ?_
  obtain rfl := hR.inv0
  clear hR
  have hlen := TInstr.len lo l
  have hl1 := hb.1
  have h0 := copyR_zero (TInstr.tw 0) TInstr.tz l
  repeat' (first | ((with_reducible apply o_y); exact y_; rfl) | (refine e_make ?_; intro ss bb) | with_reducible refine al_none rfl ?_ | (with_reducible first | apply aw_seq | apply aw_region | apply al_nil | apply aq_then | apply aw_block))
  generalize ss = so; generalize bb = bo
  apply aw_loopk (X := Nat) [0, 3, 1000000] (fun i => [(4, .int .i64 (i : Int))]) (fun i => (so, bo, .row 4 (copyR (TInstr.tw 0) TInstr.tz l i)) :: R) (fun i => i ≤ l.length) (fun i => l.length - i) 0 (Nat.zero_le _)
  exact kp_; (repeat (first | exact Weak.envNil | refine Weak.envCons we_ ?_))
  · rw [← h0]; exact .refl _
  intro i hi
  try dsimp only
  by_cases hlt : i < l.length
  · obtain ⟨hrow, hset⟩ := copyR_set (TInstr.tw 0) TInstr.tz hlt
    have hra : (l.map (TInstr.tw lo))[i]? = some (l[i].tw lo) := row_map hlt
    have hbi := hb.2 _ (List.getElem_mem hlt)
    generalize l[i] = x at hset hra hbi
    have hct := toInstr_ct hst lo x hbi
    unfold TInstr.tw at hct
    rw [show x.tw lo = [.int .i64 x.op, .int .i64 x.a, .int .i64 x.b, .str x.text] from rfl] at hra
    replace hrow : (copyR (TInstr.tw 0) TInstr.tz l i)[i]? = some [.int .i64 0, .int .i64 0, .int .i64 0, .str ⟨#[]⟩] := hrow
    repeat' (first | ((with_reducible apply o_y); exact y_; rfl) | refine e_call hG hst (hct) ?_ | refine e_store ?_ | with_reducible refine al_none rfl ?_ | (with_reducible first | apply aw_seq | apply aw_region | apply al_nil | apply aq_then | apply aw_block | apply aw_skip | apply aq_block) | (refine aw_cond_dt rfl rr_ dd_ ?_))
    refine aq_round (i + 1) (by omega) (by omega) (.of _ nw_ od_ (by rw [← hset]; exact .refl _))
  · obtain rfl : i = l.length := by omega
    rw [copyR_full]
    repeat' (first | ((with_reducible apply o_y); exact y_; rfl) | with_reducible refine al_none rfl ?_ | (with_reducible first | apply aw_seq | apply aw_region | apply al_nil | apply aq_then | apply aw_exit | apply aw_ret | apply aq_block_hit | apply aq_then_exit) | (refine aw_cond_df rfl rr_ dd_ ?_))
    exact aq_retm1 x_ rfl (so, bo) trivial rfl (.cons _ _ _ _ (.nil R)) pk_ (.tmp _ _ rfl) rfl
theorem toEntryS_own (hst : Stable G) (lo : Nat) (l : List TEntry) (hb : l.length ≤ 1048576 ∧ ∀ y ∈ l, TEntry.small 1048576 y) : CtM Tryz.prog G 38 [.sl lo 4 (l.map (TEntry.tw lo))] [] (fun _ : Nat × Nat => True) (fun y => [(y.1, y.2, .row 4 (l.map (TEntry.tw 0)))]) (fun y => .ms y.1 y.2 0 l.length) := by
  refine ctm_enter Tryz.func38 rfl Tryz.ntmps38 rfl rfl rfl fun w0 R gs objsR hG hR => ?_
  obtain rfl := hR.inv0
  clear hR
  have hlen := TEntry.len lo l
  have hl1 := hb.1
  have h0 := copyR_zero (TEntry.tw 0) TEntry.tz l
  repeat' (first | ((with_reducible apply o_y); exact y_; rfl) | (refine e_make ?_; intro ss bb) | with_reducible refine al_none rfl ?_ | (with_reducible first | apply aw_seq | apply aw_region | apply al_nil | apply aq_then | apply aw_block))
  generalize ss = so; generalize bb = bo
  apply aw_loopk (X := Nat) [0, 3, 1000000] (fun i => [(4, .int .i64 (i : Int))]) (fun i => (so, bo, .row 4 (copyR (TEntry.tw 0) TEntry.tz l i)) :: R) (fun i => i ≤ l.length) (fun i => l.length - i) 0 (Nat.zero_le _)
  exact kp_; (repeat (first | exact Weak.envNil | refine Weak.envCons we_ ?_))
  · rw [← h0]; exact .refl _
  intro i hi
  try dsimp only
  by_cases hlt : i < l.length
  · obtain ⟨hrow, hset⟩ := copyR_set (TEntry.tw 0) TEntry.tz hlt
    have hra : (l.map (TEntry.tw lo))[i]? = some (l[i].tw lo) := row_map hlt
    have hbi := hb.2 _ (List.getElem_mem hlt)
    generalize l[i] = x at hset hra hbi
    have hct := toEntry_ct hst lo x hbi
    unfold TEntry.tw at hct
    rw [show x.tw lo = [.int .i64 x.owner, .bool x.class_, .str x.selector, .int .i64 x.code] from rfl] at hra
    replace hrow : (copyR (TEntry.tw 0) TEntry.tz l i)[i]? = some [.int .i64 0, .bool false, .str ⟨#[]⟩, .int .i64 0] := hrow
    repeat' (first | ((with_reducible apply o_y); exact y_; rfl) | refine e_call hG hst (hct) ?_ | refine e_store ?_ | with_reducible refine al_none rfl ?_ | (with_reducible first | apply aw_seq | apply aw_region | apply al_nil | apply aq_then | apply aw_block | apply aw_skip | apply aq_block) | (refine aw_cond_dt rfl rr_ dd_ ?_))
    refine aq_round (i + 1) (by omega) (by omega) (.of _ nw_ od_ (by rw [← hset]; exact .refl _))
  · obtain rfl : i = l.length := by omega
    rw [copyR_full]
    repeat' (first | ((with_reducible apply o_y); exact y_; rfl) | with_reducible refine al_none rfl ?_ | (with_reducible first | apply aw_seq | apply aw_region | apply al_nil | apply aq_then | apply aw_exit | apply aw_ret | apply aq_block_hit | apply aq_then_exit) | (refine aw_cond_df rfl rr_ dd_ ?_))
    exact aq_retm1 x_ rfl (so, bo) trivial rfl (.cons _ _ _ _ (.nil R)) pk_ (.tmp _ _ rfl) rfl
theorem toClassInfo_own (hst : Stable G) (lo : Nat) (x : TClassInfo) (hb : x.small 1048576) : CtM Tryz.prog G 114 [.agg [.str x.name, .int .i64 x.parent, .sl lo 1 (strR x.fields)]] [] (fun _ : Nat × Nat => True) (fun y => [(y.1, y.2, .row 1 (strR x.fields))]) (fun y => .agg [.str x.name, .int .i64 x.parent, .ms y.1 y.2 0 x.fields.length]) := by
  refine ctm_enter Tryz.func114 rfl Tryz.ntmps114 rfl rfl rfl fun w0 R gs objsR hG hR => ?_
  obtain rfl := hR.inv0
  clear hR
  have hin := toStringS_own hst lo x.fields hb.2.1
  repeat' (first | ((with_reducible apply o_y); exact y_; rfl) | refine e_box ?_ | (refine e_alloc ?_; intro ss bb) | refine e_storep ?_ | ((with_reducible apply o_callM); rfl; kernel_rfl; (repeat (first | exact ArgsM.nil | ((with_reducible apply ArgsM.cons); rfl))); exact hG; exact hin; exact .nil _; intro y hy; refine al_app1 ?_) | with_reducible refine al_none rfl ?_ | (with_reducible first | apply aw_seq | apply aw_region | apply al_nil | apply aq_then | apply aw_ret))
  refine aq_retm1 x_ rfl y trivial rfl (.cons _ _ _ _ (.nil R)) pk_ (.cell _ _ _ _ _ rfl mm_ (by kernel_rfl) (by kernel_rfl) (by kernel_rfl)) rfl
theorem toClassInfoS_own (hst : Stable G) (lo : Nat) (l : List TClassInfo) (hb : l.length ≤ 1048576 ∧ ∀ y ∈ l, TClassInfo.small 1048576 y) : CtM Tryz.prog G 36 [.sl lo 3 (l.map (TClassInfo.tw lo))] [] (fun y : (Nat × Nat) × List (Nat × Nat) => y.2.length = l.length) (fun y => (y.1.1, y.1.2, .row 3 (nR clsMk l y.2)) :: nO clsOb l y.2) (fun y => .ms y.1.1 y.1.2 0 l.length) := by
  refine ctm_enter Tryz.func36 rfl Tryz.ntmps36 rfl rfl rfl fun w0 R gs objsR hG hR => ?_
  obtain rfl := hR.inv0
  clear hR
  have hlen := TClassInfo.len lo l
  have hl1 := hb.1
  have h0 : List.replicate l.length TClassInfo.tz = nR clsMk (l.take 0) [] ++ List.replicate (l.length - 0) TClassInfo.tz := by simp [nR]
  repeat' (first | ((with_reducible apply o_y); exact y_; rfl) | (refine e_make ?_; intro ss bb) | with_reducible refine al_none rfl ?_ | (with_reducible first | apply aw_seq | apply aw_region | apply al_nil | apply aq_then | apply aw_block))
  generalize ss = so; generalize bb = bo
  apply aw_loopk (X := Nat × List (Nat × Nat)) [0, 3, 1000000] (fun x => [(4, .int .i64 (x.1 : Int))]) (fun x => (so, bo, .row 3 (nR clsMk (l.take x.1) x.2 ++ List.replicate (l.length - x.1) TClassInfo.tz)) :: (nO clsOb (l.take x.1) x.2 ++ R)) (fun x => x.1 ≤ l.length ∧ x.2.length = x.1) (fun x => l.length - x.1) (0, []) ⟨Nat.zero_le _, rfl⟩
  exact kp_; (repeat (first | exact Weak.envNil | refine Weak.envCons we_ ?_))
  · rw [← h0]; exact .refl _
  rintro ⟨i, ps⟩ ⟨hi, hps⟩
  dsimp only at hi hps ⊢
  by_cases hlt : i < l.length
  · have hrs := fun p => nR_set clsMk TClassInfo.tz hlt hps p
    have hos := fun p => nO_snoc clsOb hlt hps p
    have hra : (l.map (TClassInfo.tw lo))[i]? = some (l[i].tw lo) := row_map hlt
    have hbi := hb.2 _ (List.getElem_mem hlt)
    generalize l[i] = x at hrs hos hra hbi
    have hct := toClassInfo_own hst lo x hbi
    rw [show x.tw lo = [.str x.name, .int .i64 x.parent, .sl lo 1 (strR x.fields)] from rfl] at hra
    have hrow : (nR clsMk (l.take i) ps ++ List.replicate (l.length - i) TClassInfo.tz)[i]? = some [.str ⟨#[]⟩, .int .i64 0, .nils] := (hrs (0, 0)).1
    generalize nO clsOb (l.take i) ps = T at hos ⊢
    repeat' (first | ((with_reducible apply o_y); exact y_; rfl) | ((with_reducible apply o_callM); rfl; kernel_rfl; (repeat (first | exact ArgsM.nil | ((with_reducible apply ArgsM.cons); rfl))); exact hG; exact hct; exact .nil _; intro y hy; refine al_app1 ?_) | refine e_store ?_ | with_reducible refine al_none rfl ?_ | (with_reducible first | apply aw_seq | apply aw_region | apply al_nil | apply aq_then | apply aw_block | apply aw_skip | apply aq_block) | (refine aw_cond_dt rfl rr_ dd_ ?_))
    refine aq_round (i + 1, ps ++ [y]) ⟨by dsimp only; omega, by dsimp only; simp [hps]⟩ (by dsimp only; omega) (.of _ nw_ od_ ?_)
    dsimp only
    rw [hos y, ← (hrs y).2]
    exact pick_snoc _ _ T R
  · obtain rfl : i = l.length := by omega
    rw [List.take_of_length_le (Nat.le_refl _), Nat.sub_self, List.replicate_zero, List.append_nil]
    repeat' (first | ((with_reducible apply o_y); exact y_; rfl) | with_reducible refine al_none rfl ?_ | (with_reducible first | apply aw_seq | apply aw_region | apply al_nil | apply aq_then | apply aw_exit | apply aw_ret | apply aq_block_hit | apply aq_then_exit) | (refine aw_cond_df rfl rr_ dd_ ?_))
    exact aq_retm1 x_ rfl ((so, bo), ps) hps rfl (.cons _ _ _ _ (.app _ R)) (.refl _) (.tmp _ _ rfl) rfl
theorem toCode_own (hst : Stable G) (lo : Nat) (x : TCode) (hb : x.small 1048576) : CtM Tryz.prog G 115 [.agg [.bool x.block, .int .i64 x.params, .int .i64 x.slots, .sl lo 4 (x.instrs.map (TInstr.tw lo))]] [] (fun _ : Nat × Nat => True) (fun y => [(y.1, y.2, .row 4 (x.instrs.map (TInstr.tw 0)))]) (fun y => .agg [.bool x.block, .int .i64 x.params, .int .i64 x.slots, .ms y.1 y.2 0 x.instrs.length]) := by
  refine ctm_enter Tryz.func115 rfl Tryz.ntmps115 rfl rfl rfl fun w0 R gs objsR hG hR => ?_
  obtain rfl := hR.inv0
  clear hR
  have hin := toInstrS_own hst lo x.instrs hb
  repeat' (first | ((with_reducible apply o_y); exact y_; rfl) | refine e_box ?_ | (refine e_alloc ?_; intro ss bb) | refine e_storep ?_ | ((with_reducible apply o_callM); rfl; kernel_rfl; (repeat (first | exact ArgsM.nil | ((with_reducible apply ArgsM.cons); rfl))); exact hG; exact hin; exact .nil _; intro y hy; refine al_app1 ?_) | with_reducible refine al_none rfl ?_ | (with_reducible first | apply aw_seq | apply aw_region | apply al_nil | apply aq_then | apply aw_ret))
  refine aq_retm1 x_ rfl y trivial rfl (.cons _ _ _ _ (.nil R)) pk_ (.cell _ _ _ _ _ rfl mm_ (by kernel_rfl) (by kernel_rfl) (by kernel_rfl)) rfl
theorem toCodeS_own (hst : Stable G) (lo : Nat) (l : List TCode) (hb : l.length ≤ 1048576 ∧ ∀ y ∈ l, TCode.small 1048576 y) : CtM Tryz.prog G 37 [.sl lo 4 (l.map (TCode.tw lo))] [] (fun y : (Nat × Nat) × List (Nat × Nat) => y.2.length = l.length) (fun y => (y.1.1, y.1.2, .row 4 (nR codMk l y.2)) :: nO codOb l y.2) (fun y => .ms y.1.1 y.1.2 0 l.length) := by
  refine ctm_enter Tryz.func37 rfl Tryz.ntmps37 rfl rfl rfl fun w0 R gs objsR hG hR => ?_
  obtain rfl := hR.inv0
  clear hR
  have hlen := TCode.len lo l
  have hl1 := hb.1
  have h0 : List.replicate l.length TCode.tz = nR codMk (l.take 0) [] ++ List.replicate (l.length - 0) TCode.tz := by simp [nR]
  repeat' (first | ((with_reducible apply o_y); exact y_; rfl) | (refine e_make ?_; intro ss bb) | with_reducible refine al_none rfl ?_ | (with_reducible first | apply aw_seq | apply aw_region | apply al_nil | apply aq_then | apply aw_block))
  generalize ss = so; generalize bb = bo
  apply aw_loopk (X := Nat × List (Nat × Nat)) [0, 3, 1000000] (fun x => [(4, .int .i64 (x.1 : Int))]) (fun x => (so, bo, .row 4 (nR codMk (l.take x.1) x.2 ++ List.replicate (l.length - x.1) TCode.tz)) :: (nO codOb (l.take x.1) x.2 ++ R)) (fun x => x.1 ≤ l.length ∧ x.2.length = x.1) (fun x => l.length - x.1) (0, []) ⟨Nat.zero_le _, rfl⟩
  exact kp_; (repeat (first | exact Weak.envNil | refine Weak.envCons we_ ?_))
  · rw [← h0]; exact .refl _
  rintro ⟨i, ps⟩ ⟨hi, hps⟩
  dsimp only at hi hps ⊢
  by_cases hlt : i < l.length
  · have hrs := fun p => nR_set codMk TCode.tz hlt hps p
    have hos := fun p => nO_snoc codOb hlt hps p
    have hra : (l.map (TCode.tw lo))[i]? = some (l[i].tw lo) := row_map hlt
    have hbi := hb.2 _ (List.getElem_mem hlt)
    generalize l[i] = x at hrs hos hra hbi
    have hct := toCode_own hst lo x hbi
    rw [show x.tw lo = [.bool x.block, .int .i64 x.params, .int .i64 x.slots, .sl lo 4 (x.instrs.map (TInstr.tw lo))] from rfl] at hra
    have hrow : (nR codMk (l.take i) ps ++ List.replicate (l.length - i) TCode.tz)[i]? = some [.bool false, .int .i64 0, .int .i64 0, .nils] := (hrs (0, 0)).1
    generalize nO codOb (l.take i) ps = T at hos ⊢
    repeat' (first | ((with_reducible apply o_y); exact y_; rfl) | ((with_reducible apply o_callM); rfl; kernel_rfl; (repeat (first | exact ArgsM.nil | ((with_reducible apply ArgsM.cons); rfl))); exact hG; exact hct; exact .nil _; intro y hy; refine al_app1 ?_) | refine e_store ?_ | with_reducible refine al_none rfl ?_ | (with_reducible first | apply aw_seq | apply aw_region | apply al_nil | apply aq_then | apply aw_block | apply aw_skip | apply aq_block) | (refine aw_cond_dt rfl rr_ dd_ ?_))
    refine aq_round (i + 1, ps ++ [y]) ⟨by dsimp only; omega, by dsimp only; simp [hps]⟩ (by dsimp only; omega) (.of _ nw_ od_ ?_)
    dsimp only
    rw [hos y, ← (hrs y).2]
    exact pick_snoc _ _ T R
  · obtain rfl : i = l.length := by omega
    rw [List.take_of_length_le (Nat.le_refl _), Nat.sub_self, List.replicate_zero, List.append_nil]
    repeat' (first | ((with_reducible apply o_y); exact y_; rfl) | with_reducible refine al_none rfl ?_ | (with_reducible first | apply aw_seq | apply aw_region | apply al_nil | apply aq_then | apply aw_exit | apply aw_ret | apply aq_block_hit | apply aq_then_exit) | (refine aw_cond_df rfl rr_ dd_ ?_))
    exact aq_retm1 x_ rfl ((so, bo), ps) hps rfl (.cons _ _ _ _ (.app _ R)) (.refl _) (.tmp _ _ rfl) rfl
end
end Go.Proofs.YthpdkhejeookhaaGreatDoor
/- The law's own text for a mark. -/
namespace Go.Proofs.YthpdkhejeookhaaGreatDoor
open Go Go.RowKit
/-- A mark's text. -/
def markB (n : Int) : ByteArray := ⟨(109 :: Lib.itoa n).toArray⟩
set_option maxHeartbeats 400000 in
set_option maxRecDepth 8000 in
theorem markText_any (n : Int) (w : World) (h0 : 0 ≤ n) (h1 : n ≤ 9000000000000000000) : Calls Tryz.prog 127 #[.int .i64 n] w fun e w' => e = .returned (.string (markB n)) ∧ Below w.heap.size w w' := by
  by_cases hz : n = 0
  · subst hz
    go_enter Tryz.func127, Tryz.ntmps127
    go_wp2
    go_ret
    exact ⟨ret_str (by decide +kernel), Below.refl _ _⟩
  have Hlen := Lib.hid (pre_length (u := n.natAbs) (by omega))
  have HP := Lib.hid (numB_pre hz)
  have hpos : 0 < n := by omega
  have hle : ¬ n ≤ 0 := by omega
  go_enter Tryz.func127, Tryz.ntmps127
  go_wp2
  go_loopw [0, 3] (fun nv ov wr => ∃ (m : Nat) (s : ByteArray), nv = .int .i64 (m : Int) ∧ ov = .string s ∧ m ≤ 9000000000000000000 ∧ pre m ++ s.data.toList = pre n.natAbs ∧ Below w.heap.size w wr) (fun nv _ _ => (intOf nv).natAbs)
  case atStart => exact ⟨n.natAbs, _, by rw [show ((n.natAbs : Nat) : Int) = n by omega], rfl, by omega, by simp, Below.refl _ _⟩
  case round =>
    obtain ⟨m, s, rfl, rfl, hm1, hr, hb⟩ := hrel
    have hsz : s.size ≤ 19 := by
      have := congrArg List.length hr
      rw [List.length_append, size_toList] at this
      have := Hlen.out
      omega
    have Hr := Lib.hid hr
    clear hr
    by_cases hm : m = 0
    · subst hm
      go_wp2
      go_ret
      refine ⟨ret_str ?_, hb⟩
      have h2 := Hr.out
      rw [show pre 0 = [] from rfl, List.nil_append] at h2
      refine bytes_eq ?_
      rw [ByteArray.data_append, Array.toList_append, h2]
      have h3 := HP.out
      rw [if_neg (by omega)] at h3
      have h4 : Lib.itoa n = pre n.natAbs := congrArg (fun b : ByteArray => b.data.toList) h3
      show _ = 109 :: Lib.itoa n
      rw [h4]; rfl
    · have hd9 : m % 10 ≤ 9 := by omega
      have hp := pre_step (u := m) hm
      generalize hd : m % 10 = d at hd9 hp
      have hdi : (m : Int) % 10 = (d : Int) := by omega
      have hdq : ((m / 10 : Nat) : Int) = (m : Int) / 10 := by omega
      obtain ⟨b, hbd⟩ : ∃ b, UInt8.ofNat (48 + d) = b := ⟨_, rfl⟩
      rw [hbd] at hp
      have Hp := Lib.hid hp
      have hcv := conv_one 265 5 wr (48 + d) (by omega) (48 + (d : Int)) (by omega) Tryz.underlying265 Tryz.underlying5
      rw [hbd] at hcv
      have Hdq := Lib.hid hdq
      clear hp hd hbd hdq
      have hnext : pre (m / 10) ++ ((⟨#[b]⟩ : ByteArray) ++ s).data.toList = pre n.natAbs := by
        rw [← Hr.out, Hp.out, ByteArray.data_append, Array.toList_append, List.append_assoc]
      have Hn := Lib.hid hnext
      clear hnext
      have hbel : ∀ o, Below w.heap.size w (wr.alloc o) := fun o => hb.trans (((Below.refl _ _).alloc (Nat.le_refl _) o).mono hb.size)
      have hm0 : (0 : Int) < (m : Int) := by omega
      clear hb
      go_wp2
      go_roundw
      case rel => exact ⟨m / 10, _, by rw [Hdq.out], rfl, by omega, Hn.out, hbel _⟩
      case measure => simp [intOf]; omega

theorem markText_ct {G : World → Prop} (n : Int) (h0 : 0 ≤ n) (h1 : n ≤ 9000000000000000000) : Ct Tryz.prog G 127 [.int .i64 n] (fun _ => .str (markB n)) := ct_int_str fun w _ => markText_any n w h0 h1
end Go.Proofs.YthpdkhejeookhaaGreatDoor
/- The laws' marks of what a call owns, and their check: exact. Written by gen_mk.py. -/
namespace Go.Proofs.YthpdkhejeookhaaGreatDoor
set_option maxRecDepth 20000
open Go Go.RowKit
/-- A list marked from k on. -/
def mkL {α : Type} (mk : Int → α → α) (nx : Int → α → Int) : Int → List α → List α
  | _, [] => []
  | k, x :: r => mk k x :: mkL mk nx (nx k x) r
def kL {α : Type} (nx : Int → α → Int) (k : Int) (l : List α) : Int := l.foldl nx k
def ptL {α : Type} (mk : Int → α → α) (nx : Int → α → Int) (k : Int) (l : List α) (i : Nat) : List α := mkL mk nx k (l.take i) ++ l.drop i
section
variable {α : Type} {mk : Int → α → α} {nx : Int → α → Int}
theorem mkL_len : ∀ (k : Int) (l : List α), (mkL mk nx k l).length = l.length
  | _, [] => rfl
  | k, x :: r => by simp [mkL, mkL_len (nx k x) r]
theorem mkL_app : ∀ (k : Int) (a b : List α), mkL mk nx k (a ++ b) = mkL mk nx k a ++ mkL mk nx (kL nx k a) b
  | _, [], b => rfl
  | k, x :: r, b => by
    show mk k x :: mkL mk nx (nx k x) (r ++ b) = mk k x :: (mkL mk nx (nx k x) r ++ mkL mk nx (kL nx (nx k x) r) b)
    rw [mkL_app]
theorem kL_snoc {k : Int} {l : List α} {i : Nat} (h : i < l.length) : kL nx k (l.take (i + 1)) = nx (kL nx k (l.take i)) l[i] := by
  rw [takeSnoc h]
  unfold kL
  rw [List.foldl_append]; rfl
theorem ptL_len {k : Int} {l : List α} {i : Nat} (h : i ≤ l.length) : (ptL mk nx k l i).length = l.length := by
  unfold ptL
  rw [List.length_append, mkL_len, List.length_take, List.length_drop]; omega
theorem ptL_get {k : Int} {l : List α} {i : Nat} (h : i < l.length) : (ptL mk nx k l i)[i]? = some l[i] := by
  unfold ptL
  rw [List.getElem?_append_right (by rw [mkL_len, List.length_take]; omega), mkL_len, List.length_take, show i - min i l.length = 0 by omega, List.drop_eq_getElem_cons h]; rfl
theorem ptL_set {k : Int} {l : List α} {i : Nat} (h : i < l.length) : (ptL mk nx k l i).set i (mk (kL nx k (l.take i)) l[i]) = ptL mk nx k l (i + 1) := by
  unfold ptL
  rw [List.set_append_right _ _ (by rw [mkL_len, List.length_take]; omega), mkL_len, List.length_take, show i - min i l.length = 0 by omega, List.drop_eq_getElem_cons h, List.set_cons_zero, takeSnoc h, mkL_app, List.append_assoc]; rfl
theorem ptL_full (k : Int) (l : List α) : ptL mk nx k l l.length = mkL mk nx k l := by
  unfold ptL
  rw [List.take_length, List.drop_length, List.append_nil]
theorem mkL_get {k : Int} {l : List α} {i : Nat} (h : i < l.length) : (mkL mk nx k l)[i]? = some (mk (kL nx k (l.take i)) l[i]) := by
  conv => lhs; rw [← List.take_append_drop i l, mkL_app]
  rw [List.getElem?_append_right (by rw [mkL_len, List.length_take]; omega), mkL_len, List.length_take, show i - min i l.length = 0 by omega, List.drop_eq_getElem_cons h]; rfl
theorem kL_in {c : Nat} : ∀ {l : List α} {k : Int}, (∀ x ∈ l, ∀ q, q ≤ nx q x ∧ nx q x ≤ q + c) → k ≤ kL nx k l ∧ kL nx k l ≤ k + c * l.length
  | [], k, _ => by show k ≤ k ∧ k ≤ k + _; simp
  | x :: r, k, h => by
    have h1 := h x List.mem_cons_self k
    have h2 := kL_in (l := r) (k := nx k x) (fun y hy => h y (List.mem_cons_of_mem _ hy))
    have e : kL nx k (x :: r) = kL nx (nx k x) r := rfl
    have e2 : (c : Int) * (((x :: r).length : Nat) : Int) = c * (r.length : Nat) + c := by rw [List.length_cons, Int.natCast_add, Int.mul_add]; simp
    rw [e, e2]
    omega
theorem kL_take {c : Nat} {l : List α} {k : Int} {i : Nat} {n : Nat} (hn : l.length ≤ n) (h : ∀ x ∈ l, ∀ q, q ≤ nx q x ∧ nx q x ≤ q + c) (hi : i ≤ l.length) : k ≤ kL nx k (l.take i) ∧ kL nx k (l.take i) ≤ k + c * n := by
  have h1 := kL_in (nx := nx) (c := c) (l := l.take i) (k := k) (fun x hx => h x (List.mem_of_mem_take hx))
  have h2 : (l.take i).length ≤ n := by rw [List.length_take]; omega
  have h3 : (c : Int) * ((l.take i).length : Nat) ≤ c * n := by exact_mod_cast Nat.mul_le_mul_left c h2
  omega
end
/-- One of the rows' objects is taken out of the list, and put back. -/
theorem nO_get {α : Type} (ob : α → TObj) {l : List α} {ps : List (Nat × Nat)} {i : Nat} {p : Nat × Nat} {x : α} (hx : l[i]? = some x) (hp : ps[i]? = some p) : (nO ob l ps)[i]? = some (p.1, p.2, ob x) := by
  unfold nO
  rw [List.getElem?_zipWith, hx, hp]
theorem nR_get {α : Type} (mk : α → Nat × Nat → List TV) {l : List α} {ps : List (Nat × Nat)} {i : Nat} {p : Nat × Nat} {x : α} (hx : l[i]? = some x) (hp : ps[i]? = some p) : (nR mk l ps)[i]? = some (mk x p) := by
  unfold nR
  rw [List.getElem?_zipWith, hx, hp]
theorem zip_set {α β γ : Type} (f : α → β → γ) : ∀ {l : List α} {ps : List β} {i : Nat} {p : β} {x : α}, ps[i]? = some p → List.zipWith f (l.set i x) ps = (List.zipWith f l ps).set i (f x p)
  | [], _, _, _, _, _ => by simp
  | _ :: _, [], _, _, _, h => by simp at h
  | a :: l, q :: ps, 0, p, x, h => by simp at h; subst h; simp
  | a :: l, q :: ps, i + 1, p, x, h => by
    have := zip_set f (l := l) (ps := ps) (i := i) (p := p) (x := x) (by simpa using h)
    simp [this]
theorem nR_put {α : Type} (mk : α → Nat × Nat → List TV) {l : List α} {ps : List (Nat × Nat)} {i : Nat} {p : Nat × Nat} {x : α} (hp : ps[i]? = some p) : nR mk (l.set i x) ps = (nR mk l ps).set i (mk x p) := zip_set mk hp
theorem perm_out {α : Type} : ∀ {l : List α} {i : Nat} {x : α}, l[i]? = some x → l.Perm (x :: l.eraseIdx i)
  | [], _, _, h => by simp at h
  | a :: l, 0, x, h => by simp at h; subst h; exact .refl _
  | a :: l, i + 1, x, h => by
    have := perm_out (l := l) (i := i) (x := x) (by simpa using h)
    exact (this.cons a).trans (.swap x a _)
theorem erase_set {α : Type} : ∀ (l : List α) (i : Nat) (x : α), (l.set i x).eraseIdx i = l.eraseIdx i
  | [], _, _ => rfl
  | a :: l, 0, x => rfl
  | a :: l, i + 1, x => by simp [erase_set l i x]
theorem nO_out {α : Type} (ob : α → TObj) {l : List α} {ps : List (Nat × Nat)} {i : Nat} {p : Nat × Nat} {x : α} (hx : l[i]? = some x) (hp : ps[i]? = some p) : (nO ob l ps).Perm ((p.1, p.2, ob x) :: (nO ob l ps).eraseIdx i) := perm_out (nO_get ob hx hp)
theorem nO_in {α : Type} (ob : α → TObj) {l : List α} {ps : List (Nat × Nat)} {i : Nat} {p : Nat × Nat} {x : α} (hl : i < l.length) (hp : ps[i]? = some p) : (nO ob (l.set i x) ps).Perm ((p.1, p.2, ob x) :: (nO ob l ps).eraseIdx i) := by
  have h := nO_out ob (l := l.set i x) (ps := ps) (i := i) (p := p) (x := x) (by rw [List.getElem?_set_self hl]) hp
  have e : (nO ob (l.set i x) ps).eraseIdx i = (nO ob l ps).eraseIdx i := by
    unfold nO
    rw [zip_set _ hp, erase_set]
  rw [e] at h
  exact h
theorem pick_out {a z : Nat × Nat × TObj} {N E : Objs} (h : N.Perm (z :: E)) (R : Objs) : Pick (z :: a :: (E ++ R)) (a :: (N ++ R)) := .perm (by
  have h1 : (a :: (N ++ R)).Perm (a :: z :: (E ++ R)) := ((h.append_right R)).cons a
  exact (List.Perm.swap a z _).trans h1.symm)
theorem pick_in {a z : Nat × Nat × TObj} {N E : Objs} (h : N.Perm (z :: E)) (R : Objs) : Pick (a :: (N ++ R)) (z :: a :: (E ++ R)) := .perm (by
  have h1 : (a :: (N ++ R)).Perm (a :: z :: (E ++ R)) := ((h.append_right R)).cons a
  exact h1.trans (List.Perm.swap z a _))
theorem pick_rot (A B C : Objs) : Pick (B ++ (A ++ C)) (A ++ (B ++ C)) := .perm (by
  rw [← List.append_assoc, ← List.append_assoc]
  exact List.perm_append_comm.append_right C)
def mkString (k : Int) (_ : ByteArray) : ByteArray := markB k
def nxString (k : Int) (_ : ByteArray) : Int := k + 1
theorem nxString_in (l : List ByteArray) : ∀ x ∈ l, ∀ q, q ≤ nxString q x ∧ nxString q x ≤ q + (1 : Nat) := fun x _ q => by unfold nxString; omega
theorem strR_put (l : List ByteArray) (k : Nat) (s : ByteArray) : (strR l).set k [TV.str s] = strR (l.set k s) := by simp [strR, List.map_set]
def mkInstr (k : Int) (_ : TInstr) : TInstr := ⟨k, k + 1, k + 1 + 1, markB (k + 1 + 1 + 1)⟩
def nxInstr (k : Int) (_ : TInstr) : Int := k + 1 + 1 + 1 + 1
theorem nxInstr_in (l : List TInstr) : ∀ x ∈ l, ∀ q, q ≤ nxInstr q x ∧ nxInstr q x ≤ q + (4 : Nat) := fun x _ q => by unfold nxInstr; omega
def mkEntry (k : Int) (_ : TEntry) : TEntry := ⟨k, decide ((k + 1).tmod 3 = 0), markB (k + 1 + 1), k + 1 + 1 + 1⟩
def nxEntry (k : Int) (_ : TEntry) : Int := k + 1 + 1 + 1 + 1
theorem nxEntry_in (l : List TEntry) : ∀ x ∈ l, ∀ q, q ≤ nxEntry q x ∧ nxEntry q x ≤ q + (4 : Nat) := fun x _ q => by unfold nxEntry; omega
def mkClassInfo (k : Int) (x : TClassInfo) : TClassInfo := ⟨markB (k), k + 1, mkL mkString nxString (k + 1 + 1) x.fields⟩
def nxClassInfo (k : Int) (x : TClassInfo) : Int := kL nxString (k + 1 + 1) x.fields
theorem nxClassInfo_in {l : List TClassInfo} (h : ∀ y ∈ l, TClassInfo.small 1048576 y) : ∀ x ∈ l, ∀ q, q ≤ nxClassInfo q x ∧ nxClassInfo q x ≤ q + (1048578 : Nat) := fun x hx q => by
  have h1 := h x hx
  have h2 := h1.2.1
  have h3 := kL_in (nx := nxString) (l := x.fields) (k := q + 1 + 1) (nxString_in _)
  unfold nxClassInfo
  omega
def mkCode (k : Int) (x : TCode) : TCode := ⟨decide ((k).tmod 3 = 0), k + 1, k + 1 + 1, mkL mkInstr nxInstr (k + 1 + 1 + 1) x.instrs⟩
def nxCode (k : Int) (x : TCode) : Int := kL nxInstr (k + 1 + 1 + 1) x.instrs
theorem nxCode_in {l : List TCode} (h : ∀ y ∈ l, TCode.small 1048576 y) : ∀ x ∈ l, ∀ q, q ≤ nxCode q x ∧ nxCode q x ≤ q + (4194307 : Nat) := fun x hx q => by
  have h1 := h x hx
  have h2 := h1.1
  have h3 := kL_in (nx := nxInstr) (l := x.instrs) (k := q + 1 + 1 + 1) (nxInstr_in _)
  unfold nxCode
  omega
section
variable {G : World → Prop}
theorem markStringS_own (hst : Stable G) (s b : Nat) (l : List ByteArray) (k : Int) (hn : l.length ≤ 1048576) (hk : 0 ≤ k ∧ k ≤ 1000000000000000) : CtM Tryz.prog G 128 [.ms s b 0 l.length, .int .i64 k] [(s, b, .row 1 (strR (l)))] (fun _ : Unit => True) (fun _ => [(s, b, .row 1 (strR (mkL mkString nxString k l)))]) (fun _ => .int .i64 (kL nxString k l)) := by
  refine ctm_enter Tryz.func128 rfl Tryz.ntmps128 rfl rfl rfl fun w0 R gs objsR hG hR => ?_
  obtain rfl := hR.inv1
  clear hR
  repeat' (first | ((with_reducible apply o_y); exact y_; rfl) | with_reducible refine al_none rfl ?_ | (with_reducible first | apply aw_seq | apply aw_region | apply al_nil | apply aq_then | apply aw_block))
  apply aw_loopk (X := Nat) [0, 1000000] (fun x => [(5, .int .i64 (x : Int)), (1, .int .i64 (kL nxString k (l.take x)))]) (fun x => (s, b, .row 1 (strR (ptL mkString nxString k l x))) :: R) (fun x => x ≤ l.length) (fun x => l.length - x) 0 (Nat.zero_le _)
  exact kp_; (repeat (first | exact Weak.envNil | refine Weak.envCons we_ ?_))
  · exact .refl _
  intro i hi
  try dsimp only
  have hq := kL_take (k := k) (i := i) hn (nxString_in l) hi
  by_cases hlt : i < l.length
  · have hrow : (strR (ptL mkString nxString k l i))[i]? = some ((fun s : ByteArray => [TV.str s]) l[i]) := by
      simp only [strR, List.getElem?_map, ptL_get hlt]; rfl
    have hset : (strR (ptL mkString nxString k l i)).set i ((fun s : ByteArray => [TV.str s]) (mkString (kL nxString k (l.take i)) l[i])) = strR (ptL mkString nxString k l (i + 1)) := by
      rw [← ptL_set hlt, strR_put]
    have hks := kL_snoc (nx := nxString) (k := k) hlt
    have hrl : (strR (ptL mkString nxString k l i)).length = l.length := by simp [strR, ptL_len hi]
    generalize strR (ptL mkString nxString k l i) = rows at hrow hset hrl ⊢
    generalize kL nxString k (l.take i) = q at hq hset hks ⊢
    generalize l[i] = x at hrow hset hks
    replace hrow : rows[i]? = some [.str x] := hrow
    have hks2 : kL nxString k (l.take (i + 1)) = q + 1 := hks
    repeat' (first | ((with_reducible apply o_y); exact y_; rfl) | refine e_store ?_ | ((with_reducible apply o_call); rfl; kernel_rfl; (repeat (first | exact Args.nil | ((with_reducible apply Args.cons); rfl; exact .same _))); exact hG; exact hst; exact markText_ct _ (by omega) (by omega)) | with_reducible refine al_none rfl ?_ | (with_reducible first | apply aw_seq | apply aw_region | apply al_nil | apply aq_then | apply aw_block | apply aw_skip | apply aq_block) | (refine aw_cond_dt rfl rr_ dd_ ?_))
    refine aq_round (i + 1) (by omega) (by omega) (.of _ (Weak.envCons rfl (Weak.envCons (lk_int rfl (by rw [hks2])) Weak.envNil)) od_ ?_)
    rw [← hset]
    (try simp only [])
    exact .refl _
  · obtain rfl : i = l.length := by omega
    rw [ptL_full, List.take_length]
    repeat' (first | ((with_reducible apply o_y); exact y_; rfl) | with_reducible refine al_none rfl ?_ | (with_reducible first | apply aw_seq | apply aw_region | apply al_nil | apply aq_then | apply aw_exit | apply aw_ret | apply aq_block_hit | apply aq_then_exit) | (refine aw_cond_df rfl rr_ dd_ ?_))
    exact aq_retm1 x_ rfl () trivial rfl (.cons _ _ _ _ (.nil R)) pk_ (.tmp _ _ rfl) rfl
theorem markInstrS_own (hst : Stable G) (s b : Nat) (l : List TInstr) (k : Int) (hn : l.length ≤ 1048576) (hk : 0 ≤ k ∧ k ≤ 1000000000000000) : CtM Tryz.prog G 129 [.ms s b 0 l.length, .int .i64 k] [(s, b, .row 4 ((l).map (TInstr.tw 0)))] (fun _ : Unit => True) (fun _ => [(s, b, .row 4 ((mkL mkInstr nxInstr k l).map (TInstr.tw 0)))]) (fun _ => .int .i64 (kL nxInstr k l)) := by
  refine ctm_enter Tryz.func129 rfl Tryz.ntmps129 rfl rfl rfl fun w0 R gs objsR hG hR => ?_
  obtain rfl := hR.inv1
  clear hR
  repeat' (first | ((with_reducible apply o_y); exact y_; rfl) | with_reducible refine al_none rfl ?_ | (with_reducible first | apply aw_seq | apply aw_region | apply al_nil | apply aq_then | apply aw_block))
  apply aw_loopk (X := Nat) [0, 1000000] (fun x => [(5, .int .i64 (x : Int)), (1, .int .i64 (kL nxInstr k (l.take x)))]) (fun x => (s, b, .row 4 ((ptL mkInstr nxInstr k l x).map (TInstr.tw 0))) :: R) (fun x => x ≤ l.length) (fun x => l.length - x) 0 (Nat.zero_le _)
  exact kp_; (repeat (first | exact Weak.envNil | refine Weak.envCons we_ ?_))
  · exact .refl _
  intro i hi
  try dsimp only
  have hq := kL_take (k := k) (i := i) hn (nxInstr_in l) hi
  by_cases hlt : i < l.length
  · have hrow : ((ptL mkInstr nxInstr k l i).map (TInstr.tw 0))[i]? = some ((TInstr.tw 0) l[i]) := by
      simp only [List.getElem?_map, ptL_get hlt]; rfl
    have hset : ((ptL mkInstr nxInstr k l i).map (TInstr.tw 0)).set i ((TInstr.tw 0) (mkInstr (kL nxInstr k (l.take i)) l[i])) = (ptL mkInstr nxInstr k l (i + 1)).map (TInstr.tw 0) := by
      rw [← ptL_set hlt, List.map_set]
    have hks := kL_snoc (nx := nxInstr) (k := k) hlt
    have hrl : ((ptL mkInstr nxInstr k l i).map (TInstr.tw 0)).length = l.length := by simp [ptL_len hi]
    generalize (ptL mkInstr nxInstr k l i).map (TInstr.tw 0) = rows at hrow hset hrl ⊢
    generalize kL nxInstr k (l.take i) = q at hq hset hks ⊢
    generalize l[i] = x at hrow hset hks
    replace hrow : rows[i]? = some [.int .i64 x.op, .int .i64 x.a, .int .i64 x.b, .str x.text] := hrow
    have hr1 : (rows.set i [.int .i64 q, .int .i64 x.a, .int .i64 x.b, .str x.text])[i]? = some [.int .i64 q, .int .i64 x.a, .int .i64 x.b, .str x.text] := by rw [List.getElem?_set_self (by omega)]
    have hks2 : kL nxInstr k (l.take (i + 1)) = q + 1 + 1 + 1 + 1 := hks
    repeat' (first | ((with_reducible apply o_y); exact y_; rfl) | refine e_store ?_ | ((with_reducible apply o_call); rfl; kernel_rfl; (repeat (first | exact Args.nil | ((with_reducible apply Args.cons); rfl; exact .same _))); exact hG; exact hst; exact markText_ct _ (by omega) (by omega)) | with_reducible refine al_none rfl ?_ | (with_reducible first | apply aw_seq | apply aw_region | apply al_nil | apply aq_then | apply aw_block | apply aw_skip | apply aq_block) | (refine aw_cond_dt rfl rr_ dd_ ?_))
    refine aq_round (i + 1) (by omega) (by omega) (.of _ (Weak.envCons rfl (Weak.envCons (lk_int rfl (by rw [hks2])) Weak.envNil)) od_ ?_)
    rw [← hset]
    (try simp only [List.set_set])
    exact .refl _
  · obtain rfl : i = l.length := by omega
    rw [ptL_full, List.take_length]
    repeat' (first | ((with_reducible apply o_y); exact y_; rfl) | with_reducible refine al_none rfl ?_ | (with_reducible first | apply aw_seq | apply aw_region | apply al_nil | apply aq_then | apply aw_exit | apply aw_ret | apply aq_block_hit | apply aq_then_exit) | (refine aw_cond_df rfl rr_ dd_ ?_))
    exact aq_retm1 x_ rfl () trivial rfl (.cons _ _ _ _ (.nil R)) pk_ (.tmp _ _ rfl) rfl
theorem markEntryS_own (hst : Stable G) (s b : Nat) (l : List TEntry) (k : Int) (hn : l.length ≤ 1048576) (hk : 0 ≤ k ∧ k ≤ 1000000000000000) : CtM Tryz.prog G 50 [.ms s b 0 l.length, .int .i64 k] [(s, b, .row 4 ((l).map (TEntry.tw 0)))] (fun _ : Unit => True) (fun _ => [(s, b, .row 4 ((mkL mkEntry nxEntry k l).map (TEntry.tw 0)))]) (fun _ => .int .i64 (kL nxEntry k l)) := by
  refine ctm_enter Tryz.func50 rfl Tryz.ntmps50 rfl rfl rfl fun w0 R gs objsR hG hR => ?_
  obtain rfl := hR.inv1
  clear hR
  repeat' (first | ((with_reducible apply o_y); exact y_; rfl) | with_reducible refine al_none rfl ?_ | (with_reducible first | apply aw_seq | apply aw_region | apply al_nil | apply aq_then | apply aw_block))
  apply aw_loopk (X := Nat) [0, 1000000] (fun x => [(5, .int .i64 (x : Int)), (1, .int .i64 (kL nxEntry k (l.take x)))]) (fun x => (s, b, .row 4 ((ptL mkEntry nxEntry k l x).map (TEntry.tw 0))) :: R) (fun x => x ≤ l.length) (fun x => l.length - x) 0 (Nat.zero_le _)
  exact kp_; (repeat (first | exact Weak.envNil | refine Weak.envCons we_ ?_))
  · exact .refl _
  intro i hi
  try dsimp only
  have hq := kL_take (k := k) (i := i) hn (nxEntry_in l) hi
  by_cases hlt : i < l.length
  · have hrow : ((ptL mkEntry nxEntry k l i).map (TEntry.tw 0))[i]? = some ((TEntry.tw 0) l[i]) := by
      simp only [List.getElem?_map, ptL_get hlt]; rfl
    have hset : ((ptL mkEntry nxEntry k l i).map (TEntry.tw 0)).set i ((TEntry.tw 0) (mkEntry (kL nxEntry k (l.take i)) l[i])) = (ptL mkEntry nxEntry k l (i + 1)).map (TEntry.tw 0) := by
      rw [← ptL_set hlt, List.map_set]
    have hks := kL_snoc (nx := nxEntry) (k := k) hlt
    have hrl : ((ptL mkEntry nxEntry k l i).map (TEntry.tw 0)).length = l.length := by simp [ptL_len hi]
    generalize (ptL mkEntry nxEntry k l i).map (TEntry.tw 0) = rows at hrow hset hrl ⊢
    generalize kL nxEntry k (l.take i) = q at hq hset hks ⊢
    generalize l[i] = x at hrow hset hks
    replace hrow : rows[i]? = some [.int .i64 x.owner, .bool x.class_, .str x.selector, .int .i64 x.code] := hrow
    have hr1 : (rows.set i [.int .i64 q, .bool x.class_, .str x.selector, .int .i64 x.code])[i]? = some [.int .i64 q, .bool x.class_, .str x.selector, .int .i64 x.code] := by rw [List.getElem?_set_self (by omega)]
    have hks2 : kL nxEntry k (l.take (i + 1)) = q + 1 + 1 + 1 + 1 := hks
    repeat' (first | ((with_reducible apply o_y); exact y_; rfl) | refine e_store ?_ | ((with_reducible apply o_call); rfl; kernel_rfl; (repeat (first | exact Args.nil | ((with_reducible apply Args.cons); rfl; exact .same _))); exact hG; exact hst; exact markText_ct _ (by omega) (by omega)) | with_reducible refine al_none rfl ?_ | (with_reducible first | apply aw_seq | apply aw_region | apply al_nil | apply aq_then | apply aw_block | apply aw_skip | apply aq_block) | (refine aw_cond_dt rfl rr_ dd_ ?_))
    refine aq_round (i + 1) (by omega) (by omega) (.of _ (Weak.envCons rfl (Weak.envCons (lk_int rfl (by rw [hks2])) Weak.envNil)) od_ ?_)
    rw [← hset]
    (try simp only [List.set_set])
    exact .refl _
  · obtain rfl : i = l.length := by omega
    rw [ptL_full, List.take_length]
    repeat' (first | ((with_reducible apply o_y); exact y_; rfl) | with_reducible refine al_none rfl ?_ | (with_reducible first | apply aw_seq | apply aw_region | apply al_nil | apply aq_then | apply aw_exit | apply aw_ret | apply aq_block_hit | apply aq_then_exit) | (refine aw_cond_df rfl rr_ dd_ ?_))
    exact aq_retm1 x_ rfl () trivial rfl (.cons _ _ _ _ (.nil R)) pk_ (.tmp _ _ rfl) rfl
theorem markClassInfoS_own (hst : Stable G) (s b : Nat) (l : List TClassInfo) (ps : List (Nat × Nat)) (hps : ps.length = l.length) (k : Int) (hn : l.length ≤ 1048576 ∧ ∀ y ∈ l, TClassInfo.small 1048576 y) (hk : 0 ≤ k ∧ k ≤ 100000000000000) :
    CtM Tryz.prog G 48 [.ms s b 0 l.length, .int .i64 k] ((s, b, .row 3 (nR clsMk l ps)) :: nO clsOb l ps) (fun _ : Unit => True) (fun _ => (s, b, .row 3 (nR clsMk (mkL mkClassInfo nxClassInfo k l) ps)) :: nO clsOb (mkL mkClassInfo nxClassInfo k l) ps) (fun _ => .int .i64 (kL nxClassInfo k l)) := by
  refine ctm_enter Tryz.func48 rfl Tryz.ntmps48 rfl rfl rfl fun w0 R gs objsR hG hR => ?_
  obtain rfl := hR.eq
  clear hR
  obtain ⟨hn, hsm⟩ := hn
  repeat' (first | ((with_reducible apply o_y); exact y_; rfl) | with_reducible refine al_none rfl ?_ | (with_reducible first | apply aw_seq | apply aw_region | apply al_nil | apply aq_then | apply aw_block))
  apply aw_loopk (X := Nat) [0, 1000000] (fun x => [(5, .int .i64 (x : Int)), (1, .int .i64 (kL nxClassInfo k (l.take x)))]) (fun x => (s, b, .row 3 (nR clsMk (ptL mkClassInfo nxClassInfo k l x) ps)) :: (nO clsOb (ptL mkClassInfo nxClassInfo k l x) ps ++ R)) (fun x => x ≤ l.length) (fun x => l.length - x) 0 (Nat.zero_le _)
  exact kp_; (repeat (first | exact Weak.envNil | refine Weak.envCons we_ ?_))
  · exact .refl _
  intro i hi
  try dsimp only
  have hq := kL_take (k := k) (i := i) hn (nxClassInfo_in hsm) hi
  by_cases hlt : i < l.length
  · obtain ⟨p, hp⟩ : ∃ p, ps[i]? = some p := ⟨_, List.getElem?_eq_getElem (by omega)⟩
    have hpl : i < (ptL mkClassInfo nxClassInfo k l i).length := by rw [ptL_len hi]; exact hlt
    have hrow := nR_get clsMk (ptL_get (mk := mkClassInfo) (nx := nxClassInfo) (k := k) hlt) hp
    have hset := nR_put clsMk (l := ptL mkClassInfo nxClassInfo k l i) (x := mkClassInfo (kL nxClassInfo k (l.take i)) l[i]) hp
    have hout := nO_out clsOb (ptL_get (mk := mkClassInfo) (nx := nxClassInfo) (k := k) hlt) hp
    have hin := nO_in clsOb (x := mkClassInfo (kL nxClassInfo k (l.take i)) l[i]) hpl hp
    rw [ptL_set hlt] at hset hin
    have hks := kL_snoc (nx := nxClassInfo) (k := k) hlt
    have hrl : (nR clsMk (ptL mkClassInfo nxClassInfo k l i) ps).length = l.length := by rw [nR_len _ (by rw [ptL_len hi]; exact hps), ptL_len hi]
    have hb := hsm _ (List.getElem_mem hlt)
    generalize (nO clsOb (ptL mkClassInfo nxClassInfo k l i) ps).eraseIdx i = E at hout hin
    generalize nO clsOb (ptL mkClassInfo nxClassInfo k l i) ps = N0 at hout ⊢
    generalize nR clsMk (ptL mkClassInfo nxClassInfo k l i) ps = rows at hrow hset hrl ⊢
    generalize kL nxClassInfo k (l.take i) = q at hq hset hks hin ⊢
    generalize l[i] = x at hrow hset hks hout hin hb
    replace hrow : rows[i]? = some [.str x.name, .int .i64 x.parent, .ms p.1 p.2 0 x.fields.length] := hrow
    have hr1 : (rows.set i [.str (markB (q)), .int .i64 x.parent, .ms p.1 p.2 0 x.fields.length])[i]? = some [.str (markB (q)), .int .i64 x.parent, .ms p.1 p.2 0 x.fields.length] := by rw [List.getElem?_set_self (by omega)]
    have hct := markStringS_own hst p.1 p.2 x.fields (q + 1 + 1) hb.2.1 (by omega)
    repeat' (first | ((with_reducible apply o_y); exact y_; rfl) | refine e_store ?_ | ((with_reducible apply o_call); rfl; kernel_rfl; (repeat (first | exact Args.nil | ((with_reducible apply Args.cons); rfl; exact .same _))); exact hG; exact hst; exact markText_ct _ (by omega) (by omega)) | with_reducible refine al_none rfl ?_ | (with_reducible first | apply aw_seq | apply aw_region | apply al_nil | apply aq_then | apply aw_block | apply aw_skip) | (refine aw_cond_dt rfl rr_ dd_ ?_))
    refine ao_pick (pick_out hout R) ?_
    repeat' (first | ((with_reducible apply o_y); exact y_; rfl) | ((with_reducible apply o_callM); rfl; kernel_rfl; (repeat (first | exact ArgsM.nil | ((with_reducible apply ArgsM.cons); rfl))); exact hG; exact hct; exact .cons _ _ _ _ (.nil _); intro y hy; refine al_app1 ?_) | with_reducible refine al_none rfl ?_ | (with_reducible first | apply aw_region | apply al_nil | apply aq_then | apply aq_block))
    refine aq_round (i + 1) (by omega) (by omega) (.of _ (Weak.envCons rfl (Weak.envCons (lk_int rfl (by rw [hks]; rfl)) Weak.envNil)) od_ ?_)
    rw [hset]
    simp only [List.set_set]
    have hcl : clsMk (mkClassInfo q x) p = [.str (markB (q)), .int .i64 (q + 1), .ms p.1 p.2 0 x.fields.length] := by
      unfold clsMk mkClassInfo
      dsimp only
      rw [mkL_len]
    rw [hcl]
    exact pick_in hin R
  · obtain rfl : i = l.length := by omega
    rw [ptL_full, List.take_length]
    repeat' (first | ((with_reducible apply o_y); exact y_; rfl) | with_reducible refine al_none rfl ?_ | (with_reducible first | apply aw_seq | apply aw_region | apply al_nil | apply aq_then | apply aw_exit | apply aw_ret | apply aq_block_hit | apply aq_then_exit) | (refine aw_cond_df rfl rr_ dd_ ?_))
    exact aq_retm1 x_ rfl () trivial rfl (.cons _ _ _ _ (.app _ R)) (.refl _) (.tmp _ _ rfl) rfl
theorem markCodeS_own (hst : Stable G) (s b : Nat) (l : List TCode) (ps : List (Nat × Nat)) (hps : ps.length = l.length) (k : Int) (hn : l.length ≤ 1048576 ∧ ∀ y ∈ l, TCode.small 1048576 y) (hk : 0 ≤ k ∧ k ≤ 100000000000000) :
    CtM Tryz.prog G 49 [.ms s b 0 l.length, .int .i64 k] ((s, b, .row 4 (nR codMk l ps)) :: nO codOb l ps) (fun _ : Unit => True) (fun _ => (s, b, .row 4 (nR codMk (mkL mkCode nxCode k l) ps)) :: nO codOb (mkL mkCode nxCode k l) ps) (fun _ => .int .i64 (kL nxCode k l)) := by
  refine ctm_enter Tryz.func49 rfl Tryz.ntmps49 rfl rfl rfl fun w0 R gs objsR hG hR => ?_
  obtain rfl := hR.eq
  clear hR
  obtain ⟨hn, hsm⟩ := hn
  repeat' (first | ((with_reducible apply o_y); exact y_; rfl) | with_reducible refine al_none rfl ?_ | (with_reducible first | apply aw_seq | apply aw_region | apply al_nil | apply aq_then | apply aw_block))
  apply aw_loopk (X := Nat) [0, 1000000] (fun x => [(5, .int .i64 (x : Int)), (1, .int .i64 (kL nxCode k (l.take x)))]) (fun x => (s, b, .row 4 (nR codMk (ptL mkCode nxCode k l x) ps)) :: (nO codOb (ptL mkCode nxCode k l x) ps ++ R)) (fun x => x ≤ l.length) (fun x => l.length - x) 0 (Nat.zero_le _)
  exact kp_; (repeat (first | exact Weak.envNil | refine Weak.envCons we_ ?_))
  · exact .refl _
  intro i hi
  try dsimp only
  have hq := kL_take (k := k) (i := i) hn (nxCode_in hsm) hi
  by_cases hlt : i < l.length
  · obtain ⟨p, hp⟩ : ∃ p, ps[i]? = some p := ⟨_, List.getElem?_eq_getElem (by omega)⟩
    have hpl : i < (ptL mkCode nxCode k l i).length := by rw [ptL_len hi]; exact hlt
    have hrow := nR_get codMk (ptL_get (mk := mkCode) (nx := nxCode) (k := k) hlt) hp
    have hset := nR_put codMk (l := ptL mkCode nxCode k l i) (x := mkCode (kL nxCode k (l.take i)) l[i]) hp
    have hout := nO_out codOb (ptL_get (mk := mkCode) (nx := nxCode) (k := k) hlt) hp
    have hin := nO_in codOb (x := mkCode (kL nxCode k (l.take i)) l[i]) hpl hp
    rw [ptL_set hlt] at hset hin
    have hks := kL_snoc (nx := nxCode) (k := k) hlt
    have hrl : (nR codMk (ptL mkCode nxCode k l i) ps).length = l.length := by rw [nR_len _ (by rw [ptL_len hi]; exact hps), ptL_len hi]
    have hb := hsm _ (List.getElem_mem hlt)
    generalize (nO codOb (ptL mkCode nxCode k l i) ps).eraseIdx i = E at hout hin
    generalize nO codOb (ptL mkCode nxCode k l i) ps = N0 at hout ⊢
    generalize nR codMk (ptL mkCode nxCode k l i) ps = rows at hrow hset hrl ⊢
    generalize kL nxCode k (l.take i) = q at hq hset hks hin ⊢
    generalize l[i] = x at hrow hset hks hout hin hb
    replace hrow : rows[i]? = some [.bool x.block, .int .i64 x.params, .int .i64 x.slots, .ms p.1 p.2 0 x.instrs.length] := hrow
    have hr1 : (rows.set i [.bool (decide ((q).tmod 3 = 0)), .int .i64 x.params, .int .i64 x.slots, .ms p.1 p.2 0 x.instrs.length])[i]? = some [.bool (decide ((q).tmod 3 = 0)), .int .i64 x.params, .int .i64 x.slots, .ms p.1 p.2 0 x.instrs.length] := by rw [List.getElem?_set_self (by omega)]
    have hct := markInstrS_own hst p.1 p.2 x.instrs (q + 1 + 1 + 1) hb.1 (by omega)
    repeat' (first | ((with_reducible apply o_y); exact y_; rfl) | refine e_store ?_ | with_reducible refine al_none rfl ?_ | (with_reducible first | apply aw_seq | apply aw_region | apply al_nil | apply aq_then | apply aw_block | apply aw_skip) | (refine aw_cond_dt rfl rr_ dd_ ?_))
    refine ao_pick (pick_out hout R) ?_
    repeat' (first | ((with_reducible apply o_y); exact y_; rfl) | ((with_reducible apply o_callM); rfl; kernel_rfl; (repeat (first | exact ArgsM.nil | ((with_reducible apply ArgsM.cons); rfl))); exact hG; exact hct; exact .cons _ _ _ _ (.nil _); intro y hy; refine al_app1 ?_) | with_reducible refine al_none rfl ?_ | (with_reducible first | apply aw_region | apply al_nil | apply aq_then | apply aq_block))
    refine aq_round (i + 1) (by omega) (by omega) (.of _ (Weak.envCons rfl (Weak.envCons (lk_int rfl (by rw [hks]; rfl)) Weak.envNil)) od_ ?_)
    rw [hset]
    simp only [List.set_set]
    have hcl : codMk (mkCode q x) p = [.bool (decide ((q).tmod 3 = 0)), .int .i64 (q + 1), .int .i64 (q + 1 + 1), .ms p.1 p.2 0 x.instrs.length] := by
      unfold codMk mkCode
      dsimp only
      rw [mkL_len]
    rw [hcl]
    exact pick_in hin R
  · obtain rfl : i = l.length := by omega
    rw [ptL_full, List.take_length]
    repeat' (first | ((with_reducible apply o_y); exact y_; rfl) | with_reducible refine al_none rfl ?_ | (with_reducible first | apply aw_seq | apply aw_region | apply al_nil | apply aq_then | apply aw_exit | apply aw_ret | apply aq_block_hit | apply aq_then_exit) | (refine aw_cond_df rfl rr_ dd_ ?_))
    exact aq_retm1 x_ rfl () trivial rfl (.cons _ _ _ _ (.app _ R)) (.refl _) (.tmp _ _ rfl) rfl
end
end Go.Proofs.YthpdkhejeookhaaGreatDoor
