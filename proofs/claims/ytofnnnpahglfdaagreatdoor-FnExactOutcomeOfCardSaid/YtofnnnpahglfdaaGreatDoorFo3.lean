/- Part 3 of the proof: the texts EngR2, EngU, EngV, EngW, EngX, EngY, EngZ, EngK, EngL, EngN, EngQ, EngP, EngM, EngAE, EngAA, EngAK, EngAB, EngAC, EngAD, EngAF, EngAL, EngAR, EngAG, EngAH, EngAI, EngAJ, EngAM, EngAN. -/
import Derived.Test.YtofnnnpahglfdaaGreatDoorFo1
import Derived.Laws.MakeOwn
import Derived.Laws.RangeString
import Derived.Lib.AppendStr
import Derived.Laws.StructEq
import Derived.Lib.LazyBuf
set_option linter.all false
namespace Go.Proofs.YtofnnnpahglfdaaGreatDoor
open Go Go.RowKit
def fG (ops : Array Oper) (k : Nat) : Bool :=
 let B := Region.before ops
 (List.range ops.size).all fun j => Nat.blt j k || (List.range j).all fun i => (B.getD j 0).testBit i
section
variable {P : Program} {w0 : World} {N : Nat} {Q : Exit -> Act -> World -> Prop} {objs : aH} {ops : Array Oper} {env : Env}
theorem np {k : Nat} (h : fG ops k = true) {j i : Nat} (hj : j < ops.size) (hk : k <= j) (hi : i < j) : ((Region.before ops).getD j 0).testBit i = true := by
 unfold fG at h
 have h1 := List.all_eq_true.1 h j (List.mem_range.2 hj)
 simp only [Bool.or_eq_true] at h1
 rcases h1 with h1 | h1
 ·rw [Nat.blt_eq] at h1; omega
 ·exact List.all_eq_true.1 h1 i (List.mem_range.2 hi)
theorem yC (hok : di ops = true) {k : Nat} (htl : fG ops k = true) : ∀ (n m : Nat), m + n = ops.size -> k <= m -> ∀ (fuel : Nat) (listed : Array Bool) (a : Act) (w : World), listed.size = ops.size -> n <= fuel -> (∀ i, i < ops.size -> (listed.getD i false = true ↔ i < m)) ->
   wpList P ops Q (ops.toList.drop m) a w -> wpAny P .any ops Q fuel listed a w := by
 intro n
 induction n with
 | zero =>
   intro m hm hkm fuel listed a w hsz hf hl h
   rw [List.drop_of_length_le (by simp; omega)] at h
   have hr : Region.ready .any ops listed = [] := by
     cases hrd : Region.ready .any ops listed with
     | nil => rfl
     | cons j r =>
       exfalso
       have hj : j ∈ Region.ready .any ops listed := by rw [hrd]; exact List.mem_cons_self
       obtain ⟨h0, o, ho, _⟩ := mem_ready.1 hj
       have hjl : j < ops.size := (Array.getElem?_eq_some_iff.1 ho).1
       have := (hl j hjl).2 (by omega)
       rw [Array.getD_eq_getD_getElem?, Array.getElem?_eq_getElem (by omega)] at this h0
       simp only [Option.getD_some] at this h0
       rw [this] at h0; cases h0
   have hq : Q .normal a w := h
   cases fuel with
   | zero => exact ⟨hr, hq⟩
   | succ fuel => exact ⟨fun _ => hq, fun i hi => by rw [hr] at hi; cases hi⟩
 | succ n ih =>
   intro m hm hkm fuel listed a w hsz hf hl h
   cases fuel with
   | zero => omega
   | succ fuel =>
   have hmlt : m < ops.size := by omega
   have hom : ops[m]? = some ops[m] := by simp [hmlt]
   have hX : ∀ i, i < ops.size -> i < m -> listed.getD i false = true := fun i hi him => (hl i hi).2 him
   have hready : m ∈ Region.ready .any ops listed := mem_ready.2 ⟨by
     have h1 : listed.getD m false ≠ true := fun h => by have := (hl m hmlt).1 h; omega
     rw [Array.getD_eq_getD_getElem?, Array.getElem?_eq_getElem (by omega)] at h1 |-
     simpa using h1, _, hom, fun e he hb => by
     have := (dQ hok hom).1 e he hb
     exact hX e.on (by omega) this⟩
   refine ⟨fun hr => (by rw [hr] at hready; cases hready), fun i hi => ?_⟩
   obtain ⟨h0, o, ho, hed⟩ := mem_ready.1 hi
   have hil : i < ops.size := (Array.getElem?_eq_some_iff.1 ho).1
   have hnl : ¬ listed.getD i false = true := by
     rw [Array.getD_eq_getD_getElem?, Array.getElem?_eq_getElem (by omega)] at h0 |-
     simp only [Option.getD_some] at h0 |-
     rw [h0]; simp
   have him : m <= i := Nat.le_of_not_lt fun hlt => hnl (hX i hil hlt)
   have hie : i = m := by
     rcases Nat.eq_or_lt_of_le him with e | hlt
     ·exact e.symm
     ·exfalso
      have hb := np htl hil (by omega) hlt
      obtain ⟨e, he, hb2, h3⟩ := ((dQ hok ho).2 m _ hlt hom).1 hb
      have hel := hed e he hb2
      have hes := (dQ hok ho).1 e he hb2
      have := (hl e.on (by omega)).1 hel
      omega
   subst hie
   rw [hom] at ho
   cases ho
   have hdrop : ops.toList.drop i = ops[i] :: ops.toList.drop (i + 1) := by
     rw [List.drop_eq_getElem_cons (by simpa using hmlt)]; simp
   rw [hdrop] at h
   have hnext : ∀ a w, wpList P ops Q (ops.toList.drop (i + 1)) a w -> wpAny P .any ops Q fuel (listed.setIfInBounds i true) a w := fun a w hw => by
     refine ih (i + 1) (by omega) (by omega) fuel _ a w (by simpa using hsz) (by omega) (fun j hj => ?_) hw
     by_cases hji : j = i
     ·subst hji; simp [Array.getD_eq_getD_getElem?, hsz, hj]
     ·rw [getD_set_ne false (Ne.symm hji), hl j hj]; omega
   unfold wpOp
   rw [hom]
   dsimp only
   unfold wpList at h
   split at h
   ·rename_i hw
    rw [if_pos hw]
    exact h.imp (Oper.wp_mono hnext) id
   ·rename_i hw
    rw [if_neg hw]
    exact hnext _ _ h
structure JY (w0 : World) (N : Nat) (ops : Array Oper) (objs : aH) (σ : Nat -> Env) (k : Nat) (X : Nat -> Prop) (a : Act) (w : World) : Prop where
 defers : a.defers = []
 size : a.tmps.size = N
 mem : dv w0 objs w
 cut : ∀ t c, c <= k -> (∀ i, i < c -> fp ops i t -> X i) -> (∀ i, c <= i -> i < k -> fp ops i t -> ¬ X i) -> ∀ v, lk t (σ c) = some v -> Rep w objs v (a.tmps.getD t undef)
theorem rC (hok : di ops = true) {k : Nat} (_hk : k <= ops.size) {σ : Nat -> Env} {X : Nat -> Prop} {a : Act} {w : World} (hJ : JY w0 N ops objs σ k X a w) (hX : d9 ops X) (_hXk : ∀ i, X i -> i < k) {i : Nat} {o : Oper} (hi : ops[i]? = some o) (hik : i < k) (hni : ¬ X i) (hX' : d9 ops fun k => k = i \/ X k) {t : Nat} (ht : t ∈ o.looksAt ops) {v : TV} (hv : lk t (σ i) = some v) : Rep w objs v (a.tmps.getD t undef) := by
 refine hJ.cut t i (Nat.le_of_lt hik) (fun k hk hw => ?_) (fun k hk hkk hw hx => ?_) v hv
 ·obtain ⟨ok, h1, h2⟩ := Option.bind_eq_some_iff.1 hw
  have := rP hok h1 hi hk (oW h2 ht) hX' (.inl rfl)
  rcases this with h | h
  ·omega
  ·exact h
 ·obtain ⟨ok, h1, h2⟩ := Option.bind_eq_some_iff.1 hw
  rcases Nat.lt_or_ge i k with h | h
  ·exact hni (rP hok hi h1 h (ol ht h2) hX hx)
  ·exact hni ((Nat.le_antisymm h hk) ▸ hx)
def wO (o : Oper) (e e' : Env) : Prop := (∃ d tv, o.dst = some d /\ ∀ t, lk t e' = lk t ((d, tv) :: e)) \/ (o.dst = none /\ ∀ t, lk t e' = lk t e)
theorem km {objs' : aH} (hok : di ops = true) {k : Nat} (hk : k <= ops.size) {σ : Nat -> Env} {X : Nat -> Prop} {a : Act} {w w' : World} (hJ : JY w0 N ops objs σ k X a w) (hX : d9 ops X) {i d : Nat} {o : Oper} {tv : TV} {v : Value} (hi : ops[i]? = some o) (hik : i < k) (hni : ¬ X i) (hd : o.dst = some d) (hdN : d < N)
   (hC : ∀ i o, i < k -> ops[i]? = some o -> wO o (σ i) (σ (i + 1))) (hσi : ∀ t, lk t (σ (i + 1)) = lk t ((d, tv) :: σ i)) (hr : Rep w' objs' tv v) (hw : dv w0 objs' w') (hst : lb w objs w' objs') : JY w0 N ops objs' σ k (fun k => k = i \/ X k) (a.put (some d) v) w' := by
 refine ⟨hJ.defers, by simp [Act.put, hJ.size], hw, fun t c hc h1 h2 u hu => ?_⟩
 show Rep w' objs' u ((a.tmps.setIfInBounds d v).getD t undef)
 rw [kg (by rw [hJ.size]; exact hdN)]
 by_cases hdt : d = t
 ·subst hdt
  rw [if_pos rfl]
  have hwi : fp ops i d := by unfold fp; rw [hi]; exact hd
  have hic : i < c := Nat.lt_of_not_le fun h => h2 i h hik hwi (.inl rfl)
  have hlast : ∀ m, i + 1 <= m -> m <= c -> lk d (σ m) = some tv := fun m => by
    induction m with
    | zero => intro h; omega
    | succ m ih =>
      intro hm1 hm2
      rcases Nat.eq_or_lt_of_le hm1 with h | h
      ·have : m = i := by omega
       subst this; rw [hσi, bV, if_pos rfl]
      ·have hm : m < ops.size := by omega
       have hom : ops[m]? = some ops[m] := by simp [hm]
       rcases hC m _ (by omega) hom with ⟨dm, tm, e1, e2⟩ | ⟨_, e2⟩
       ·rw [e2, bV, if_neg]
        ·exact ih (by omega) (by omega)
        ·intro e
         subst e
         have hwm : fp ops m dm := by unfold fp; rw [hom]; exact e1
         rcases h1 m (by omega) hwm with h3 | h3
         ·omega
         ·exact hni (rP hok hi hom (by omega) (pC hd e1) hX h3)
       ·rw [e2]
        exact ih (by omega) (by omega)
  rw [hlast c hic (Nat.le_refl _)] at hu
  simp only [Option.some.injEq] at hu
  subst hu; exact hr
 ·rw [if_neg hdt]
  refine (hJ.cut t c hc (fun m hm hwm => ?_) (fun m hm hmk hwm hx => h2 m hm hmk hwm (.inr hx)) u hu).step hst
  rcases h1 m hm hwm with h3 | h3
  ·subst h3
   unfold fp at hwm
   rw [hi] at hwm
   simp only [Option.bind_some, hd, Option.some.injEq] at hwm
   exact absurd hwm hdt
  ·exact h3
theorem wS {objs' : aH} {k : Nat} {σ : Nat -> Env} {X : Nat -> Prop} {a : Act} {w w' : World} (hJ : JY w0 N ops objs σ k X a w) {i : Nat} {o : Oper} (hi : ops[i]? = some o) (hd : o.dst = none) (hw : dv w0 objs' w') (hst : lb w objs w' objs') : JY w0 N ops objs' σ k (fun k => k = i \/ X k) a w' := by
 refine ⟨hJ.defers, hJ.size, hw, fun t c hc h1 h2 u hu => (hJ.cut t c hc (fun m hm hwm => ?_) (fun m hm hmk hwm hx => h2 m hm hmk hwm (.inr hx)) u hu).step hst⟩
 rcases h1 m hm hwm with h3 | h3
 ·subst h3
  unfold fp at hwm
  rw [hi] at hwm
  simp only [Option.bind_some, hd] at hwm
  cases hwm
 ·exact h3
theorem aaD (hok : di ops = true) {k : Nat} (hk : k <= ops.size) {σ : Nat -> Env} {X : Nat -> Prop} {a : Act} {w : World} (hJ : JY w0 N ops objs σ k X a w) (hX : d9 ops X) (hXk : ∀ i, X i -> i < k) {i : Nat} {o : Oper} (ho : ops[i]? = some o) (hik : i < k) (hni : ¬ X i) (hX' : d9 ops fun k => k = i \/ X k)
   (hC : ∀ i o, i < k -> ops[i]? = some o -> wO o (σ i) (σ (i + 1))) (hσ : mg P w0 N ops objs o (σ i) (σ (i + 1))) {K : Act -> World -> Prop} (hnext : ∀ d v w', o.dst = some d -> d < N -> lb w objs w' objs -> JY w0 N ops objs σ k (fun k => k = i \/ X k) (a.put (some d) v) w' -> K (a.put (some d) v) w') : wpOp P ops Q i K a w := by
 obtain ⟨d, tv, hd, hdN, hσi, hcase⟩ := hσ
 have hguard : ∀ j b c dj, o.guard = some (j, b) -> (ops[j]?).bind (·.dst) = some dj -> lk dj (σ i) = some (.bool c) -> yielded ops a.tmps j = some c := fun j b c dj h1 h2 h3 => by
   have hl : dj ∈ o.looksAt ops := by unfold Oper.looksAt; rw [h1]; simp [h2]
   exact lw h2 (rC hok hk hJ hX hXk ho hik hni hX' hl h3).bool_inv
 unfold wpOp
 rw [ho]
 rcases hcase with ⟨hg, hy⟩ | ⟨hg, rfl⟩
 ·have hw : Region.wanted o (yielded ops a.tmps) = true := by
    rcases hg with hg | ⟨j, b, dj, h1, h2, h3⟩
    ·simp [Region.wanted, hg]
    ·simp [Region.wanted, h1, hguard j b b dj h1 h2 h3]
  simp only [hw, if_true]
  refine .inl (hy a w _ Q hJ.mem (fun x hx v hv => ?_) fun v w' hr hsw hst => ?_)
  ·cases x with
   | tmp t =>
     have hl : t ∈ o.looksAt ops := by
       unfold Oper.looksAt
       exact List.mem_append_left _ (List.mem_filterMap.2 ⟨.tmp t, hx, rfl⟩)
     exact rC hok hk hJ hX hXk ho hik hni hX' hl hv
   | const u => exact rn hv
   | func f => simp only [ev, Option.some.injEq] at hv; subst hv; exact .fn f [] #[] rfl (by simp)
   | global g => cases hv
  ·rw [hd]
   exact hnext d v w' hd hdN hst (km hok hk hJ hX ho hik hni hd hdN hC hσi hr hsw hst)
 ·have hw : Region.wanted o (yielded ops a.tmps) = false := by
    rcases hg with ⟨j, b, dj, h1, h2, h3⟩ | ⟨j, c, dj, h1, h2, h3⟩
    ·cases b <;> simp [Region.wanted, h1, hguard j _ _ dj h1 h2 h3]
    ·have hl : dj ∈ o.looksAt ops := by unfold Oper.looksAt; rw [h1]; simp [h2]
     simp [Region.wanted, h1, kv h2 (rC hok hk hJ hX hXk ho hik hni hX' hl h3).undef_inv]
  simp only [hw, Bool.false_eq_true, if_false]
  rw [hd]
  exact hnext d _ w hd hdN (iO _ _) (km hok hk hJ hX ho hik hni hd hdN hC hσi (.tup [] #[] rfl (by simp)) hJ.mem (iO _ _))
theorem xO {k : Nat} {σ : Nat -> Env} (hσ : ∀ i o, i < k -> ops[i]? = some o -> mg P w0 N ops objs o (σ i) (σ (i + 1))) : ∀ i o, i < k -> ops[i]? = some o -> wO o (σ i) (σ (i + 1)) := fun i o hi ho => by
 obtain ⟨d, tv, h1, _, h2, _⟩ := hσ i o hi ho
 exact .inl ⟨d, tv, h1, h2⟩
theorem oA (hok : di ops = true) {k : Nat} (hk : k <= ops.size) (htl : fG ops k = true) {σ : Nat -> Env} (hQ : AL P w0 N ops Q (ops.toList.drop k) (σ k) objs) {fuel : Nat} {listed : Array Bool} {a : Act} {w : World} (hsz : listed.size = ops.size) (hun : cO listed <= fuel) (hXk : ∀ i, listed.getD i false = true -> i < k)
   (hall : ∀ j, j < k -> listed.getD j false = true) (hJ : JY w0 N ops objs σ k (fun i => listed.getD i false = true) a w) : wpAny P .any ops Q fuel listed a w := by
 refine yC hok htl (ops.size - k) k (by omega) (Nat.le_refl _) fuel listed a w hsz ?_ (fun i hi => ⟨hXk i, hall i⟩) (hQ.run a w ⟨hJ.defers, hJ.size, hJ.mem, fun t v hv => hJ.cut t k (Nat.le_refl _) (fun i hi _ => hall i hi) (fun i hi hik => by omega) v hv⟩)
 unfold cO at hun
 rw [<- List.take_append_drop k listed.toList, List.filter_append, List.length_append] at hun
 have hd : (listed.toList.drop k).filter (! ·) = listed.toList.drop k := by
   rw [List.filter_eq_self]
   intro x hx
   obtain ⟨j, hj, rfl⟩ := List.getElem_of_mem hx
   rw [List.getElem_drop]
   simp only [List.length_drop, Array.length_toList] at hj
   have hnl : ¬ listed.getD (k + j) false = true := fun h => by have := hXk _ h; omega
   rw [Array.getD_eq_getD_getElem?, Array.getElem?_eq_getElem (by omega)] at hnl
   simpa using hnl
 rw [hd] at hun
 simp only [List.length_drop, Array.length_toList] at hun
 omega
theorem vv (hok : di ops = true) {k : Nat} (hk : k <= ops.size) (htl : fG ops k = true) (J : (Nat -> Prop) -> Act -> World -> Prop)
   (hstart : ∀ (fuel : Nat) (listed : Array Bool) (a : Act) (w : World), listed.size = ops.size -> cO listed <= fuel -> (∀ i, listed.getD i false = true -> i < k) -> (∀ j, j < k -> listed.getD j false = true) -> J (fun i => listed.getD i false = true) a w -> wpAny P .any ops Q fuel listed a w)
   (hstep : ∀ (X : Nat -> Prop) (a : Act) (w : World) (i : Nat) (o : Oper), d9 ops X -> (∀ i, X i -> i < k) -> ops[i]? = some o -> i < k -> ¬ X i -> d9 ops (fun k => k = i \/ X k) -> J X a w -> ∀ K : Act -> World -> Prop, (∀ a' w', J (fun k => k = i \/ X k) a' w' -> K a' w') -> wpOp P ops Q i K a w) :
   ∀ (fuel : Nat) (listed : Array Bool) (a : Act) (w : World), listed.size = ops.size -> cO listed <= fuel -> (∀ i, listed.getD i false = true -> i < k) -> d9 ops (fun i => listed.getD i false = true) -> J (fun i => listed.getD i false = true) a w -> wpAny P .any ops Q fuel listed a w := by
 intro fuel
 induction fuel with
 | zero =>
   intro listed a w hsz hun hXk hX hJ
   by_cases hall : ∀ j, j < k -> listed.getD j false = true
   ·exact hstart _ listed a w hsz hun hXk hall hJ
   ·exfalso
    apply hall
    intro j hj
    cases hb : listed.getD j false with
    | true => rfl
    | false =>
      exfalso
      have hjl : j < listed.size := by omega
      have : listed[j] ∈ listed.toList.filter (! ·) := List.mem_filter.2 ⟨by simp, by
        simp only [Array.getD_eq_getD_getElem?, Array.getElem?_eq_getElem hjl, Option.getD_some] at hb; simp [hb]⟩
      have := List.length_pos_of_mem this
      unfold cO at hun; omega
 | succ fuel ih =>
   intro listed a w hsz hun hXk hX hJ
   by_cases hall : ∀ j, j < k -> listed.getD j false = true
   ·exact hstart _ listed a w hsz hun hXk hall hJ
   have hsome : ∃ j, j < k /\ ¬ listed.getD j false = true := by
     refine Classical.byContradiction fun hn => hall fun j hj => Classical.byContradiction fun h => hn ⟨j, hj, h⟩
   refine ⟨fun hr => ?_, fun i hi => ?_⟩
   ·exfalso
    have hall2 : ∀ j, j < ops.size -> listed.getD j false = true := by
      intro j
      induction j using Nat.strongRecOn with
      | _ j ih =>
        intro hj
        cases hb : listed.getD j false with
        | true => rfl
        | false =>
          have hoj : ops[j]? = some ops[j] := by simp [hj]
          have hmem : j ∈ Region.ready .any ops listed := mem_ready.2 ⟨by
            have hjl : j < listed.size := by omega
            simp only [Array.getD_eq_getD_getElem?, Array.getElem?_eq_getElem hjl, Option.getD_some] at hb |-; exact hb, _, hoj, fun e he hbd => ih e.on ((dQ hok hoj).1 e he hbd) (Nat.lt_trans ((dQ hok hoj).1 e he hbd) hj)⟩
          rw [hr] at hmem; cases hmem
    obtain ⟨j, hj, hnj⟩ := hsome
    exact hnj (hall2 j (by omega))
   ·obtain ⟨h0, o, ho, hed⟩ := mem_ready.1 hi
    have hisz : i < ops.size := (Array.getElem?_eq_some_iff.1 ho).1
    have hil : i < listed.size := by rw [hsz]; exact hisz
    have h0' : listed[i] = false := by simpa [Array.getD_eq_getD_getElem?, hil] using h0
    have hni : ¬ listed.getD i false = true := by simp [hil, h0']
    have hXeq : ∀ k, (listed.setIfInBounds i true).getD k false = true ↔ (k = i \/ listed.getD k false = true) := fun k => by
      by_cases hk : k = i
      ·subst hk; simp [hil]
      ·rw [getD_set_ne false (Ne.symm hk)]; simp [hk]
    have hX' : d9 ops fun k => k = i \/ listed.getD k false = true := fun j oj hj hx e he hb => by
      rcases hx with rfl | hx
      ·rw [hj] at ho; cases ho; exact .inr (hed e he hb)
      ·exact .inr (hX j oj hj hx e he hb)
    have hik : i < k := Nat.lt_of_not_le fun hge => by
      obtain ⟨j, hj, hnj⟩ := hsome
      have := eR hok hX' i hisz (.inl rfl) j (by omega) (np htl hisz hge (by omega))
      rcases this with h | h
      ·omega
      ·exact hnj h
    have hXs : d9 ops fun k => (listed.setIfInBounds i true).getD k false = true := fun j oj hj hx e he hb => (hXeq _).2 (hX' j oj hj ((hXeq _).1 hx) e he hb)
    have hun' : cO (listed.setIfInBounds i true) <= fuel := by
      have key : ∀ (l : List Bool) (i : Nat), l[i]? = some false -> ((l.set i true).filter (! ·)).length + 1 = (l.filter (! ·)).length := fun l => by
        induction l with
        | nil => intro i h; simp at h
        | cons x l ih =>
          intro i h
          cases i with
          | zero => simp at h; subst h; simp
          | succ i =>
            have := ih i (by simpa using h)
            cases x <;> simp [List.filter_cons] at this |- <;> omega
      have := key listed.toList i (by simp [hil, h0'])
      unfold cO at hun |-
      simp only [Array.toList_setIfInBounds]
      omega
    refine hstep _ a w i o hX hXk ho hik hni hX' hJ _ fun a' w' hJ' => ?_
    have e : (fun k => (listed.setIfInBounds i true).getD k false = true) = fun k => k = i \/ listed.getD k false = true := funext fun k => propext (hXeq k)
    exact ih _ a' w' (by simpa using hsz) hun' (fun j hj => ((hXeq j).1 hj).elim (fun e => e ▸ hik) (hXk j)) hXs (e ▸ hJ')
theorem yf (hok : di ops = true) {k : Nat} (hk : k <= ops.size) (htl : fG ops k = true) {σ : Nat -> Env} (hσ : ∀ i o, i < k -> ops[i]? = some o -> mg P w0 N ops objs o (σ i) (σ (i + 1))) (hQ : AL P w0 N ops Q (ops.toList.drop k) (σ k) objs) :
   ∀ (fuel : Nat) (listed : Array Bool) (a : Act) (w : World), listed.size = ops.size -> cO listed <= fuel -> (∀ i, listed.getD i false = true -> i < k) -> d9 ops (fun i => listed.getD i false = true) -> JY w0 N ops objs σ k (fun i => listed.getD i false = true) a w -> wpAny P .any ops Q fuel listed a w :=
 vv hok hk htl (JY w0 N ops objs σ k) (fun _ _ _ _ hsz hun hXk hall hJ => oA hok hk htl hQ hsz hun hXk hall hJ)
   fun _ _ _ i o hX hXk ho hik hni hX' hJ _ hK => aaD hok hk hJ hX hXk ho hik hni hX' (xO hσ) (hσ i o hik ho) fun _ _ _ _ _ _ h => hK _ _ h
inductive Cut : Nat -> List Oper -> List Oper -> List Oper -> Prop
 | zero (l : List Oper) : Cut 0 l [] l
 | succ (n : Nat) (x : Oper) (l l1 l2 : List Oper) (h : Cut n l l1 l2) : Cut (n + 1) (x :: l) (x :: l1) l2
theorem Cut.eq {n : Nat} {l l1 l2 : List Oper} (h : Cut n l l1 l2) : l1 = l.take n /\ l2 = l.drop n /\ n <= l.length := by
 induction h with
 | zero l => simp
 | succ n x l l1 l2 h ih => obtain ⟨h1, h2, h3⟩ := ih; subst h1; subst h2; simp; exact h3
theorem iU (k : Nat) {id : Nat} {l l1 l2 : List Oper} {env : Env} (hm : P.follows .mixedOrders = true) (hok : di l.toArray = true) (htl : fG l.toArray k = true) (hc : Cut k l l1 l2) (h : DR P w0 N l.toArray objs (fun env' => AL P w0 N l.toArray Q l2 env' objs) l1 env) : AW P w0 N (.region id l.toArray true) Q env objs := ⟨fun a w hs => by
 obtain ⟨e1, e2, hkl⟩ := hc.eq
 subst e1; subst e2
 obtain ⟨σ, h1, h2, h3⟩ := acz h
 rw [List.length_take, Nat.min_eq_left hkl] at h2
 have hrep : ∀ i, (Array.replicate l.toArray.size false).getD i false = false := fun i => by
   rcases Nat.lt_or_ge i l.toArray.size with h | h
   ·simp at h; simp [h]
   ·simp at h; simp [Array.getD_eq_getD_getElem?, Array.getElem?_eq_none, h]
 have h3' : ∀ i o, i < k -> l[i]? = some o -> mg P w0 N l.toArray objs o (σ i) (σ (i + 1)) := fun i o hi ho => h3 i o (by rw [List.getElem?_take, if_pos hi]; exact ho)
 refine wp_region_any hm (yf hok (k := k) (by simpa using hkl) htl (σ := σ) (fun i o hi hk => h3' i o hi (by simpa using hk)) (by simpa using h2) _ _ _ _ (by simp) (by simp [cO]) (fun i hi => by rw [hrep] at hi; cases hi) (fun j oj _ hx => nomatch (hrep j).symm.trans hx) ⟨hs.defers, hs.size, ?_, fun t c hc h4 h5 v hv => ?_⟩)
 ·exact hs.mem.grow ⟨hs.mem.below.os, hs.mem.below.tape, hs.mem.below.output, hs.mem.below.size, hs.mem.below.block⟩ (Nat.le_refl _) (fun _ _ => rfl)
 ·have hk0 : ∀ m, m <= c -> lk t (σ m) = lk t (σ 0) := fun m => by
    induction m with
    | zero => intro _; rfl
    | succ m ih =>
      intro hm2
      have hml : m < l.length := by omega
      obtain ⟨d, tv, e1, _, e2, _⟩ := h3' m l[m] (by omega) (List.getElem?_eq_getElem hml)
      rw [e2, bV, if_neg]
      ·exact ih (by omega)
      ·intro e
       have := h4 m (by omega) (by unfold fp; simp [hml, e1, e])
       rw [hrep] at this; cases this
  rw [hk0 c (Nat.le_refl _), h1 t] at hv
  have hst : lb w objs { w with drawn := w.drawn + 1 } objs := ⟨fun _ _ _ => rfl, fun _ _ h => h, fun _ _ _ rows _ _ h => ⟨⟨rows, h⟩, rfl⟩, Nat.le_refl _, fun h => h⟩
  exact (hs.env t v hv).step hst⟩
theorem ad4 {K K' : Env -> Prop} (hK : ∀ env, K env -> K' env) {l : List Oper} {env : Env} (h : DR P w0 N ops objs K l env) : DR P w0 N ops objs K' l env := by
 induction h with
 | nil env h => exact .nil _ (hK _ h)
 | run o rest env d tv hd hN hg hy _ ih => exact .run _ _ _ _ _ hd hN hg hy ih
 | skip o rest env d hd hN hg _ ih => exact .skip _ _ _ _ hd hN hg ih
 | know rest env t v v' hv he _ ih => exact .know _ _ _ _ _ hv he ih
theorem aai : ∀ l : List Oper, Cut l.length l l []
 | [] => .zero _
 | x :: l => .succ _ _ _ _ _ (aai l)
theorem fQ {id : Nat} {l : List Oper} {env : Env} (hm : P.follows .mixedOrders = true) (hok : di l.toArray = true) (h : DR P w0 N l.toArray objs (fun env' => AQ w0 N Q .normal env' objs) l env) : AW P w0 N (.region id l.toArray true) Q env objs :=
 iU l.length hm hok (List.all_eq_true.2 fun j hj => by
   rw [Bool.or_eq_true]
   exact .inl (Nat.blt_eq ▸ (by simpa using hj))) (aai l) (ad4 (fun _ hq => ⟨fun a w hs => hq.run a w hs⟩) h)
end
section
variable {P : Program} {w0 : World} {N : Nat} {Q : Exit -> Act -> World -> Prop} {env : Env} {objs : aH} {ops : Array Oper} {rest : List Oper} {d T0 : Nat} {pos : String} {af : Array Edge} {g : Option (Nat × Bool)} {K : Env -> Prop}
theorem jz (h : AQ w0 N Q .normal env objs) : DR P w0 N ops objs (fun env2 => AQ w0 N Q .normal env2 objs) [] env := .nil env h
theorem fV {l2 : List Oper} {ops2 : Array Oper} (h : AL P w0 N ops2 Q l2 env objs) : DR P w0 N ops objs (fun env2 => AL P w0 N ops2 Q l2 env2 objs) [] env := .nil env h
structure DO (P : Program) (w0 : World) (N : Nat) (ops : Array Oper) (objs : aH) (K : Env -> Prop) (o : Oper) (rest : List Oper) (env : Env) : Prop where
 run : afZ ops env o -> DR P w0 N ops objs K (o :: rest) env
theorem fS {o : Oper} (hg : o.guard = none) (h : DO P w0 N ops objs K o rest env) : DR P w0 N ops objs K (o :: rest) env := h.run (.inl hg)
theorem jB {o : Oper} {j dj : Nat} {b : Bool} {v : TV} (hg : o.guard = some (j, b)) (hj : (ops[j]?).bind (·.dst) = some dj) (hv : lk dj env = some v) (he : v = .bool b) (h : DO P w0 N ops objs K o rest env) : DR P w0 N ops objs K (o :: rest) env := h.run (.inr ⟨j, b, dj, hg, hj, by rw [hv, he]⟩)
theorem fU {o : Oper} {d dj j : Nat} {b c : Bool} {v : TV} (hg : o.guard = some (j, c)) (hj : (ops[j]?).bind (·.dst) = some dj) (hb : lk dj env = some v) (hv : v = .bool b) (hc : c = !b) (hd : o.dst = some d) (hN : Nat.blt d N = true) (h : DR P w0 N ops objs K rest ((d, .tup []) :: env)) : DR P w0 N ops objs K (o :: rest) env := .skip _ _ _ _ hd hN (.inl ⟨j, b, dj, by rw [hg, hc], hj, by rw [hb, hv]⟩) h
theorem eG {o : Oper} {d dj j : Nat} {c : Bool} {v : TV} (hg : o.guard = some (j, c)) (hj : (ops[j]?).bind (·.dst) = some dj) (hb : lk dj env = some v) (hv : v = .tup []) (hd : o.dst = some d) (hN : Nat.blt d N = true) (h : DR P w0 N ops objs K rest ((d, .tup []) :: env)) : DR P w0 N ops objs K (o :: rest) env := .skip _ _ _ _ hd hN (.inr ⟨j, c, dj, hg, hj, by rw [hb, hv]⟩) h
theorem dh {o : Oper} {j dj : Nat} {b : Bool} {p : Prop} {i : Decidable p} {v : TV} (_hg : o.guard = some (j, b)) (_hj : (ops[j]?).bind (·.dst) = some dj) (hv : lk dj env = some v) (he : v = .bool (@decide p i)) (ht : p -> DR P w0 N ops objs K (o :: rest) ((dj, .bool true) :: env)) (hf : ¬ p -> DR P w0 N ops objs K (o :: rest) ((dj, .bool false) :: env)) : DR P w0 N ops objs K (o :: rest) env := by
 by_cases h : p
 ·exact .know _ _ dj v _ hv (by rw [he]; simp [h]) (ht h)
 ·exact .know _ _ dj v _ hv (by rw [he]; simp [h]) (hf h)
theorem o8 {o : Oper} {j dj : Nat} {b : Bool} {p : Prop} {i : Decidable p} {v : TV} (hg : o.guard = some (j, b)) (hj : (ops[j]?).bind (·.dst) = some dj) (hv : lk dj env = some v) (he : v = .bool (@decide p i)) (hp : p) (ht : DR P w0 N ops objs K (o :: rest) ((dj, .bool true) :: env)) : DR P w0 N ops objs K (o :: rest) env := dh hg hj hv he (fun _ => ht) (fun h => absurd hp h)
theorem oU {o : Oper} {j dj : Nat} {b : Bool} {p : Prop} {i : Decidable p} {v : TV} (hg : o.guard = some (j, b)) (hj : (ops[j]?).bind (·.dst) = some dj) (hv : lk dj env = some v) (he : v = .bool (@decide p i)) (hp : ¬ p) (hf : DR P w0 N ops objs K (o :: rest) ((dj, .bool false) :: env)) : DR P w0 N ops objs K (o :: rest) env := dh hg hj hv he (fun h => absurd h hp) (fun _ => hf)
theorem cN {o : Oper} {j dj : Nat} {b c : Bool} {v : TV} (_hg : o.guard = some (j, b)) (_hj : (ops[j]?).bind (·.dst) = some dj) (hv : lk dj env = some v) (he : v = .bool c) (ht : c = true -> DR P w0 N ops objs K (o :: rest) ((dj, .bool true) :: env)) (hf : c = false -> DR P w0 N ops objs K (o :: rest) ((dj, .bool false) :: env)) : DR P w0 N ops objs K (o :: rest) env := by
 cases c
 ·exact .know _ _ dj v _ hv he (hf rfl)
 ·exact .know _ _ dj v _ hv he (ht rfl)
theorem gG {T : TypeId} {x : Operand} {out : List TV} {f : Nat} {l : List TV} (hN : Nat.blt d N = true) (hA : agT T = true) (hT : js P T = true) (hi : (P.info? T).isSome = true) (hs : P.cellsOf T = szT T) (hx : ev env x = some (.cp f l)) (htk : eg (szT T) (l) out) (h : DR P w0 N ops objs K rest ((d, .agg out) :: env)) : DO P w0 N ops objs K ⟨some d, .load T x, T0, pos, af, g⟩ rest env := ⟨fun hgr => .run _ _ _ _ _ rfl hN hgr (fg rfl hT hi hs hx (fun _ => .cp f l) htk) h⟩
theorem gD {T : TypeId} {x : Operand} {out : List TV} {s b off : Nat} {cells : List TV} (hN : Nat.blt d N = true) (hA : agT T = true) (hT : js P T = true) (hi : (P.info? T).isSome = true) (hs : P.cellsOf T = szT T) (hx : ev env x = some (.mp s b off)) (hm : (s, b, bj.box cells) ∈ objs) (htk : eg (szT T) (cells.drop off) out) (h : DR P w0 N ops objs K rest ((d, .agg out) :: env)) : DO P w0 N ops objs K ⟨some d, .load T x, T0, pos, af, g⟩ rest env := ⟨fun hgr => .run _ _ _ _ _ rfl hN hgr (fg rfl hT hi hs hx (fun _ => .mp s b off cells hm) htk) h⟩
theorem gA {T : TypeId} {x : Operand} {out : List TV} {s b m j off : Nat} {rows : List (List TV)} {r0 : List TV} (hN : Nat.blt d N = true) (hA : agT T = true) (hT : js P T = true) (hi : (P.info? T).isSome = true) (hs : P.cellsOf T = szT T) (hx : ev env x = some (.me s b m j off)) (hm : (s, b, bj.row m rows) ∈ objs) (hr : rows[j]? = some r0) (htk : eg (szT T) (r0.drop off) out) (h : DR P w0 N ops objs K rest ((d, .agg out) :: env)) : DO P w0 N ops objs K ⟨some d, .load T x, T0, pos, af, g⟩ rest env := ⟨fun hgr => .run _ _ _ _ _ rfl hN hgr (fg rfl hT hi hs hx (fun _ => .me s b m j off rows r0 hm hr) htk) h⟩
theorem afo {T : TypeId} {n m : Nat} {ps : List (Nat × Operand)} {rows : List (List TV)} (hN : Nat.blt d N = true) (hev : evL env ps 0 = some rows) (hT : P.underlying T = some (.slice (P.elem T))) (hI : (cG P (P.elem T)).isSome = true) (hs : esT T = some m) (hm : P.cellsOf (P.elem T) = m) (hm0 : Nat.blt 0 m = true) (hn : rows.length = n) (hbig : Nat.ble (n * m) 16777216 = true) (hall : (rows.all fun r => Nat.beq r.length m) = true) (h : DR P w0 N ops objs K rest ((d, .sl w0.heap.size m rows) :: env)) : DO P w0 N ops objs K ⟨some d, .buildSlice T n ps.toArray, T0, pos, af, g⟩ rest env := ⟨fun hgr => .run _ _ _ _ _ rfl hN hgr (afd rfl hT hI hm hm0 hev hn hbig hall) h⟩
theorem acQ {G : World -> Prop} {f : Nat} {xs : List Operand} {ts : Array TypeId} {args : List TV} {r : Nat -> TV} (hN : Nat.blt d N = true) (hc : ig P f = true) (hargs : ca env objs xs args) (hG : G w0) (hst : aB G) (hct : Ct P G f args r) (h : DR P w0 N ops objs K rest ((d, r w0.heap.size) :: env)) : DO P w0 N ops objs K ⟨some d, .call { callee := .value (.func f), args := xs.toArray, argTypes := ts }, T0, pos, af, g⟩ rest env := ⟨fun hgr => .run _ _ _ _ _ rfl hN hgr (xI rfl hc hargs hct hG hst) h⟩
theorem adI {T : TypeId} {zs : List TV} (hN : Nat.blt d N = true) (he : zT T = zs) (hz : cG P T = some zs) (h : ∀ ss b, AL P w0 N ops Q rest ((d, .mp ss b 0) :: env) ((ss, b, .box zs) :: objs)) : AO P w0 N ops Q ⟨some d, .alloc T, T0, pos, af, g⟩ rest env objs := aco rfl rfl hN hz h
theorem o9 {T : TypeId} {n m : Nat} {ps : List (Nat × Operand)} {rows : List (List TV)} (hN : Nat.blt d N = true) (hev : evL env ps 0 = some rows) (hT : P.underlying T = some (.slice (P.elem T))) (hI : (cG P (P.elem T)).isSome = true) (hs : esT T = some m) (hm : P.cellsOf (P.elem T) = m) (hm0 : Nat.blt 0 m = true) (hn : rows.length = n) (hbig : Nat.ble (n * m) 16777216 = true) (hall : (rows.all fun r => Nat.beq r.length m) = true) (h : ∀ ss b, AL P w0 N ops Q rest ((d, .ms ss b 0 n) :: env) ((ss, b, .row m rows) :: objs)) : AO P w0 N ops Q ⟨some d, .buildSlice T n ps.toArray, T0, pos, af, g⟩ rest env objs := afg rfl rfl hN hT hI hm hm0 hev hn hbig hall h
theorem yV {T : TypeId} {x v : Operand} {s b off : Nat} {tv : TV} {cells vs cells2 : List TV} {objs2 : aH} (hx : ev env x = some (.mp s b off)) (hv : ev env v = some tv) (hc : fx tv = some vs) (hi : (P.info? T).isSome = true) (hm : (s, b, bj.box cells) ∈ objs) (hsp : cy cells off vs cells2) (hu : Upd (s, b, .box cells) (s, b, .box cells2) objs objs2) (hsz : P.cellsOf T = vs.length) (h : AL P w0 N ops Q rest env objs2) : AO P w0 N ops Q ⟨none, .store T x v, T0, pos, af, g⟩ rest env objs := uS rfl rfl hx hv hc hi hsz hu hsp h
theorem yk {T : TypeId} {x v : Operand} {s b m j off : Nat} {tv : TV} {vs r r2 : List TV} {rows rows2 : List (List TV)} {objs2 : aH} (hx : ev env x = some (.me s b m j off)) (hv : ev env v = some tv) (hc : fx tv = some vs) (hi : (P.info? T).isSome = true) (hm : (s, b, bj.row m rows) ∈ objs) (hr : rows[j]? = some r) (hsp : cy r off vs r2) (hsz : P.cellsOf T = vs.length) (hrows : rows.set j r2 = rows2) (hu : Upd (s, b, .row m rows) (s, b, .row m rows2) objs objs2) (h : AL P w0 N ops Q rest env objs2) : AO P w0 N ops Q ⟨none, .store T x v, T0, pos, af, g⟩ rest env objs := wk rfl rfl hx hv hc hi hsz hu hr hsp hrows h
theorem ck {objsOf : Nat -> aH} {T s b len n m : Nat} {x y : Operand} {f : Nat} {rows rows2 news : List (List TV)} (hN : Nat.blt d N = true) (hx : ev env x = some (.ms s b 0 len)) (hy : ev env y = some (.sl f m news)) (hT : kZ P T m = true) (hm : (s, b, bj.row m rows) ∈ objs) (hl : rows.length = len) (hn : news.length = n) (hbig : len + n <= 1000000000) (hrows : rows ++ news = rows2) (hu : ∀ b2, Upd (s, b, .row m rows) (s, b2, .row m rows2) objs (objsOf b2)) (h : ∀ b2, AL P w0 N ops Q rest ((d, .ms s b2 0 (len + n)) :: env) (objsOf b2)) : AO P w0 N ops Q ⟨some d, .call { callee := .builtin .append, args := #[x, y], argTypes := #[T, T] }, T0, pos, af, g⟩ rest env objs := abh rfl rfl hN hx hy hT (by omega) hn hbig (by rw [<- hl, List.take_length]; exact hrows) hu h
theorem lV {src dst : TypeId} {x : Operand} {s b len : Nat} {l : List UInt8} (hN : Nat.blt d N = true) (hx : ev env x = some (.ms s b 0 len)) (hobj : (s, b, bj.row 1 (jy l)) ∈ objs) (hl : l.length = len) (hs : P.underlying src = some (.slice (P.elem src))) (he : P.underlying (P.elem src) = some (.int .u8)) (hd : P.underlying dst = some .string) (h : AL P w0 N ops Q rest ((d, .str ⟨l.toArray⟩) :: env) objs) : AO P w0 N ops Q ⟨some d, .convert src dst x, T0, pos, af, g⟩ rest env objs := uI rfl hN (tI rfl hx hobj hl hs he hd) h
end
section
variable {P : Program} {w0 : World} {N : Nat} {Q : Exit -> Act -> World -> Prop} {env : Env} {objs : aH} {o : Oper}
def gK (P : Program) (T : Nat) : Option (List (Nat × Nat)) := match P.underlying T with
 | some (.struct fields) => fields.toList.mapM fun f => (P.info? f.type).map fun i => (f.offset, i.size)
 | _ => none
inductive TB (P : Program) (env : Env) (T : Nat) : List (Nat × Operand) -> List TV -> List TV -> Prop
 | nil (l : List TV) : TB P env T [] l l
 | cons (i : Nat) (x : Operand) (r : List (Nat × Operand)) (l l1 l2 : List TV) (tv : TV) (vs : List TV) (hx : ev env x = some tv) (hc : fx tv = some vs) (hs : cy l (ofT T i) vs l1) (hF : (gK P T).bind (·[i]?) = some (ofT T i, vs.length)) (hr : TB P env T r l1 l2) : TB P env T ((i, x) :: r) l l2
theorem aeh {w : World} {T : Nat} (a : Act) {places : List (Nat × Nat)} (hp : gK P T = some places) {ps : List (Nat × Operand)} {l l2 : List TV} (h : TB P env T ps l l2) : ∀ (cs : Array Value), cs.size = l.length -> (∀ (i : Nat) (t : TV) (u : Value), l[i]? = some t -> cs[i]? = some u -> Rep w objs t u) -> (∀ t ∈ l, t.isCell = true) ->
   (∀ p ∈ ps, ∀ v, ev env p.2 = some v -> Rep w objs v (a.eval p.2)) -> ∃ r, Instr.fill (places.toArray[·]?) cs (ps.map fun p => (p.1, a.eval p.2)) = some r /\ r.size = l2.length /\ (∀ (i : Nat) (t : TV) (u : Value), l2[i]? = some t -> r[i]? = some u -> Rep w objs t u) /\ ∀ t ∈ l2, t.isCell = true := by
 induction h with
 | nil l => exact fun cs h1 h2 h3 _ => ⟨cs, rfl, h1, h2, h3⟩
 | cons i x r l l1 l2 tv vs hx hc hs hF hr ih =>
   intro cs h1 h2 h3 hop
   obtain ⟨g1, g2, g3⟩ := il (show Rep w objs tv (a.eval x) from hop (i, x) (by simp) tv hx) hc
   obtain ⟨p1, p2, p3⟩ := hs.spec
   rw [hp] at hF
   simp only [Option.bind_some] at hF
   obtain ⟨f1, f2⟩ := Great.foldl_set (ofT T i) (a.eval x).cells.toList 0 cs
   have hsame : (a.eval x).cells.zipIdx.foldl (fun cs (c, j) => cs.setIfInBounds (ofT T i + j) c) cs = ((a.eval x).cells.toList.zipIdx 0).foldl (fun cs (x : Value × Nat) => cs.setIfInBounds (ofT T i + x.2) x.1) cs := by
     rw [<- Array.foldl_toList, Array.toList_zipIdx]
   obtain ⟨r', e1, e2, e3⟩ := ih (((a.eval x).cells.toList.zipIdx 0).foldl (fun cs (x : Value × Nat) => cs.setIfInBounds (ofT T i + x.2) x.1) cs) (by rw [f1, h1, p2]) (fun k t u ht hu => by
     rw [f2] at hu
     rw [p3] at ht
     by_cases hin : ofT T i <= k /\ k < ofT T i + vs.length
     ·rw [if_pos hin] at ht
      rw [if_pos ⟨by omega, by simp; omega, by omega⟩] at hu
      exact g2 _ t u ht (by simpa using hu)
     ·rw [if_neg hin] at ht
      rw [if_neg (by simp; omega)] at hu
      exact h2 k t u ht hu) (fun t ht => by
     obtain ⟨k, hk, rfl⟩ := List.getElem_of_mem ht
     have h5 := p3 k
     rw [List.getElem?_eq_getElem hk] at h5
     split at h5
     ·exact g3 _ (List.mem_of_getElem? h5.symm)
     ·exact h3 _ (List.mem_of_getElem? h5.symm)) (fun p hp => hop p (by simp [hp]))
   refine ⟨r', ?_, e2, e3⟩
   simp only [List.map_cons, Instr.fill]
   have hpl : places.toArray[i]? = some (ofT T i, vs.length) := by simpa using hF
   rw [hpl]
   simp only
   rw [if_neg (by simp; omega), hsame]
   exact e1
theorem wA {T : TypeId} {ps : List (Nat × Operand)} {l : List TV} (ho : o.op = .build T ps.toArray) (hz : cG P T = some (zT T)) (hp : (gK P T).isSome = true) (hb : TB P env T ps (zT T) l) : aU P w0 env objs o (.agg l) := aL fun a w hw hop => by
 obtain ⟨places, hp⟩ := Option.isSome_iff_exists.1 hp
 have hz0 := hz
 unfold cG at hz
 cases hi : P.info? T with
 | none => rw [hi] at hz; cases hz
 | some it =>
 rw [hi] at hz
 simp only [Option.bind_some] at hz
 cases hzz : it.zero with
 | none => rw [hzz] at hz; cases hz
 | some z =>
 rw [hzz] at hz
 simp only [Option.bind_some] at hz
 have htv := lc (w := w) (objs := objs) hz
 obtain ⟨r, e1, e2, e3, e4⟩ := aeh (w := w) (objs := objs) a hp hb z.cells (by simpa using htv.1.1.symm) (fun i t u ht hu => htv.2 i t u ht (by simpa using hu)) htv.1.2 (fun p hpm v hv => hop p.2 (by
   simp only [ho, Op.operands, List.toList_toArray]; exact List.mem_map.2 ⟨p, hpm, rfl⟩) v hv)
 refine ⟨.agg r, ?_, .agg l r e4 e2.symm e3⟩
 simp only [execOp, ho]
 refine cm (run_build w T _ r ?_)
 unfold gK at hp
 unfold Program.built
 cases hu : P.underlying T with
 | none => rw [hu] at hp; cases hp
 | some d =>
   rw [hu] at hp
   cases d <;> first | (cases hp; done) | skip
   simp only [hi, hzz, hp]
   simp only [List.map_toArray]
   exact e1
variable {ops : Array Oper} {rest : List Oper} {d T0 : Nat} {pos : String} {af : Array Edge} {g : Option (Nat × Bool)}
theorem aeq {T : TypeId} {ps : List (Nat × Operand)} {zs l : List TV} (hN : Nat.blt d N = true) (he : zT T = zs) (hb : TB P env T ps zs l) (hz : cG P T = some (zT T)) (hp : (gK P T).isSome = true) (h : AL P w0 N ops Q rest ((d, .agg l) :: env) objs) : AO P w0 N ops Q ⟨some d, .build T ps.toArray, T0, pos, af, g⟩ rest env objs := uI rfl hN (wA rfl hz hp (by rw [he]; exact hb)) h
end
section
variable {P : Program} {w0 : World} {N : Nat} {Q : Exit -> Act -> World -> Prop} {env : Env} {objs : aH} {o : Oper}
theorem yo {T : TypeId} {x lo : Operand} {s b off len m : Nat} {rows : List (List TV)} {k1 : IntKind} {n : Int} {i : Nat} (ho : o.op = .slice T x (some lo) none none) (hx : ev env x = some (.ms s b off len)) (hlo : ev env lo = some (.int k1 n))
   (hobj : (s, b, bj.row m rows) ∈ objs) (hT : P.underlying T = some (.slice (P.elem T))) (hI : (P.info? (P.elem T)).isSome = true) (hm : P.cellsOf (P.elem T) = m) (hn : n = (i : Int)) (hi : i <= len) :
   aU P w0 env objs o (.ms s b (off + i) (len - i)) := aL fun a w hw hop => by
 have h0 := hop x (ff ho) _ hx
 have h1 := (hop lo (by simp [ho, Op.operands]) _ hlo).int_inv
 have huniq : ∀ m' rows', (s, b, bj.row m' rows') ∈ objs -> m' = m := fun m' rows' h' => by
   have key : ∀ (l : aH), List.Pairwise (fun (x y : Nat × Nat × bj) => x.1 ≠ y.1 /\ (x.2.1 ≠ y.2.1 \/ x.2.1 = 0)) l -> (s, b, bj.row m rows) ∈ l -> (s, b, bj.row m' rows') ∈ l -> m' = m := fun l => by
     induction l with
     | nil => intro _ h; simp at h
     | cons z l ih =>
       intro hp h1 h2
       obtain ⟨g1, g2⟩ := List.pairwise_cons.1 hp
       rcases List.mem_cons.1 h1 with e1 | h1'
       ·rcases List.mem_cons.1 h2 with e2 | h2'
        ·rw [<- e1] at e2
         simp only [Prod.mk.injEq, bj.row.injEq] at e2
         exact e2.2.2.1
        ·exact absurd (by rw [<- e1]) (g1 _ h2').1
       ·rcases List.mem_cons.1 h2 with e2 | h2'
        ·exact absurd (by rw [<- e2]) (g1 _ h1').1
        ·exact ih g2 h1' h2'
   exact key objs hw.sites hobj h'
 generalize hv : a.eval x = v at h0
 cases h0 with
 | ms s b off len v h =>
   have hor := h.or
   obtain ⟨⟨hb, hmk, _⟩, _⟩ := h
   cases hie : P.info? (P.elem T) with
   | none => rw [hie] at hI; cases hI
   | some ie =>
   rcases hor m rows hobj with ⟨e0, e1, e2, e3⟩ | ⟨hb0, q, c, e, nn, h2, h3, h4, h5, h6⟩
   ·subst e0; subst e1; subst e2; subst e3
    obtain rfl : i = 0 := by omega
    refine ⟨.slice none 0 0, ?_, .ms s 0 0 0 _ (.mk ⟨hb, hmk, none, 0, by simp⟩ (fun _ _ _ => .inl ⟨rfl, rfl, rfl, rfl⟩) (fun _ => ⟨rfl, rfl, rfl⟩))⟩
    simp only [execOp, ho, h1, hv, Option.map_some, Option.map_none]
    refine cm ?_
    rw [run_sliceAt_slice w T _ _ _ _ hT, run_slice_l w T none 0 0 hT k1 n (by omega) (by omega), run_sizeOf w hie]
    subst hn
    simp [Result.andThen_ok, sliced]
   ·subst h2
    refine ⟨.slice (if c = i then some ⟨b, q, none⟩ else some ⟨b, q + i * m, none⟩) (len - i) (c - i), ?_, .ms s b (off + i) (len - i) _ (.mk ⟨hb, hmk, _, _, rfl⟩ (fun m' rows' hm' => .inr ⟨hb0, if c = i then q else q + i * m, c - i, e, nn, ?_, by omega, h4, ?_, fun hor => ?_⟩) (fun h0 => absurd h0 hb0))⟩
    ·simp only [execOp, ho, h1, hv, Option.map_some, Option.map_none]
     refine cm ?_
     rw [run_sliceAt_slice w T _ _ _ _ hT, run_slice_l w T _ len c hT k1 n (by omega) (by omega), run_sizeOf w hie, hm]
     subst hn
     simp [Result.andThen_ok, sliced, Addr.add_lit]
    ·split <;> rfl
    ·obtain rfl := huniq m' rows' hm'
     rw [h5]; congr 1; omega
    ·obtain rfl := huniq m' rows' hm'
     by_cases hc : c = i
     ·rw [if_pos hc]
      have : off = 0 := by omega
      have h7 := h6 (.inr this)
      rw [h7]; congr 1; omega
     ·rw [if_neg hc]
      have h7 := h6 (.inl (by omega))
      rw [h7, Nat.add_mul]
theorem zq {ops : Array Oper} {rest : List Oper} {d T0 : Nat} {pos : String} {af : Array Edge} {g : Option (Nat × Bool)} {T : TypeId} {x lo : Operand} {s b off len m : Nat} {rows : List (List TV)} {k1 : IntKind} {n : Int} {i : Nat} (hN : Nat.blt d N = true) (hx : ev env x = some (.ms s b off len)) (hlo : ev env lo = some (.int k1 n))
   (hobj : (s, b, bj.row m rows) ∈ objs) (hT : P.underlying T = some (.slice (P.elem T))) (hI : (P.info? (P.elem T)).isSome = true) (hm : P.cellsOf (P.elem T) = m) (hn : n = (i : Int)) (hi : i <= len) (h : AL P w0 N ops Q rest ((d, .ms s b (off + i) (len - i)) :: env) objs) :
   AO P w0 N ops Q ⟨some d, .slice T x (some lo) none none, T0, pos, af, g⟩ rest env objs := uI rfl hN (yo rfl hx hlo hobj hT hI hm hn hi) h
theorem wM {zs : List TV} {m : Nat} (hm : zs.length = m) (hm0 : 0 < m) : ∀ (n j : Nat) (t : TV), (List.replicate n zs).flatten[j]? = some t -> j < n * m /\ zs[j % m]? = some t
 | 0, j, t, h => by simp at h
 | n + 1, j, t, h => by
   rw [List.replicate_succ, List.flatten_cons] at h
   by_cases hj : j < m
   ·rw [List.getElem?_append_left (by omega)] at h
    rw [Nat.mod_eq_of_lt hj]
    refine ⟨?_, h⟩
    rw [Nat.succ_mul]; omega
   ·rw [List.getElem?_append_right (by omega), hm] at h
    obtain ⟨h1, h2⟩ := wM hm hm0 n (j - m) t h
    refine ⟨by rw [Nat.succ_mul]; omega, ?_⟩
    rw [Nat.mod_eq_sub_mod (by omega)]; exact h2
def aee (P : Program) (T m : Nat) : Bool := match P.info? (P.elem T) with
 | some i => Nat.beq i.size m && Nat.ble i.bytes 1024
 | none => false
theorem adu {ops : Array Oper} {rest : List Oper} {d : Nat} {T : TypeId} {x : Operand} {k : IntKind} {mi : Int} {n m : Nat} {zs : List TV} (ho : o.op = .makeSlice T x x) (hd : o.dst = some d) (hN : Nat.blt d N = true) (hx : ev env x = some (.int k mi)) (hn : mi = (n : Int))
   (hT : P.underlying T = some (.slice (P.elem T))) (hz : cG P (P.elem T) = some zs) (hm : zs.length = m) (hm0 : Nat.blt 0 m = true) (hB : aee P T m = true) (hbig : n <= 1000000000)
   (h : ∀ ss b, AL P w0 N ops Q rest ((d, .ms ss b 0 n) :: env) ((ss, b, .row m (List.replicate n zs)) :: objs)) : AO P w0 N ops Q o rest env objs := ⟨fun a w K hs hK => by
   obtain ⟨ss, hf⟩ := e9 objs
   have hm0' : 0 < m := Nat.blt_eq ▸ hm0
   have hv := (ei hs hx).int_inv
   unfold cG at hz
   cases hie : P.info? (P.elem T) with
   | none => rw [hie] at hz; cases hz
   | some i =>
   rw [hie] at hz
   simp only [Option.bind_some] at hz
   cases hzz : i.zero with
   | none => rw [hzz] at hz; cases hz
   | some z =>
   rw [hzz] at hz
   simp only [Option.bind_some] at hz
   have hB' : i.size = m /\ i.bytes <= 1024 := by
     unfold aee at hB
     rw [hie] at hB
     simp only [Bool.and_eq_true] at hB
     exact ⟨Nat.eq_of_beq_eq_true hB.1, Nat.le_of_ble_eq_true hB.2⟩
   have hrep := fun (w : World) (objs : aH) => lc (w := w) (objs := objs) hz
   have hzl : z.cells.size = m := by
     have := (hrep w []).1.1
     rw [<- hm, this]; simp
   have hbytes : (i.bytes : Int) * (n : Int) <= 281474976710656 := by
     have h1 : i.bytes * n <= 1024 * 1000000000 := Nat.mul_le_mul hB'.2 hbig
     have h2 : ((i.bytes * n : Nat) : Int) <= ((1024 * 1000000000 : Nat) : Int) := Int.ofNat_le.2 h1
     rw [Int.natCast_mul] at h2
     omega
   have hst := fun cs => gE hs.mem cs (P.elem T) ss (.row m (List.replicate n zs))
   have hrun : (execOp a.eval o).run P w = .ok (.value (.slice (some ⟨w.heap.size, 0, none⟩) n n)) (w.alloc (.cells (madeCells z.cells (n * m)) (P.elem T))) := by
     simp only [execOp, ho, hv, hn]
     refine cm ?_
     rw [run_make w T (P.elem T) i z hT hie hzz k k (n : Int) (n : Int) (by omega) (by omega) hbytes (by omega), hB'.1]
     simp
   unfold Oper.wp
   rw [hrun]
   refine hK _ _ ?_
   rw [hd]
   have hb0 : w.heap.size ≠ 0 := Nat.ne_of_gt (Nat.lt_of_lt_of_le hs.mem.pos hs.mem.below.size)
   have hcs : (madeCells z.cells (n * m)).size = n * m := size_madeCells _ _
   refine (h ss w.heap.size).run _ _ (hs.putNew hN (.ms _ _ _ _ _ (.mk ⟨by simp, fX hs.mem #[] 0 ss _, _, _, rfl⟩ (fun m' rows' hm' => .inr ⟨hb0, 0, n, P.elem T, n * m, rfl, Nat.le_refl _, by unfold World.shape?; rw [heap_alloc_new]; simp [hcs], ?_, fun _ => by simp⟩) (fun h0 => absurd h0 hb0))) (hs.mem.newObj hf ⟨⟨hm0', fun t ht => ?_⟩, fun r hr => by rw [List.eq_of_mem_replicate hr]; exact hm, .inr ⟨hs.mem.below.size, madeCells z.cells (n * m), P.elem T, n, heap_alloc_new w _, hcs, by simp, by simp only [maxLen]; omega, fun j t hj => ?_⟩⟩) (hst _))
   ·rcases List.mem_cons.1 hm' with he | hm'
    ·simp only [Prod.mk.injEq, bj.row.injEq] at he; rw [he.2.2.1]; simp
    ·exact absurd (df hs.mem hm') (Nat.lt_irrefl _)
   ·obtain ⟨r, hr, htr⟩ := List.mem_flatten.1 ht
    rw [List.eq_of_mem_replicate hr] at htr
    exact (hrep w []).1.2 t htr
   ·obtain ⟨h1, h2⟩ := wM hm hm0' n j t hj
    have hjm : j % m < z.cells.size := by rw [hzl]; exact Nat.mod_lt _ hm0'
    refine ⟨z.cells[j % m], ?_, (hrep _ _).2 (j % m) t _ h2 (by simp [hjm])⟩
    unfold madeCells
    rw [Array.getElem?_map, Array.getElem?_range]
    simp [h1, hzl]
    exact getElem!_pos z.cells (j % m) hjm⟩
theorem aeX {ops : Array Oper} {rest : List Oper} {d T0 : Nat} {pos : String} {af : Array Edge} {g : Option (Nat × Bool)} {T : TypeId} {x : Operand} {k : IntKind} {mi : Int} {n m : Nat} {zs : List TV} (hN : Nat.blt d N = true) (hx : ev env x = some (.int k mi)) (he : ezT T = zs) (hn : mi = (n : Int))
   (hT : P.underlying T = some (.slice (P.elem T))) (hz : cG P (P.elem T) = some zs) (hm : zs.length = m) (hm0 : Nat.blt 0 m = true) (hB : aee P T m = true) (hbig : n <= 1000000000)
   (h : ∀ ss b, AL P w0 N ops Q rest ((d, .ms ss b 0 n) :: env) ((ss, b, .row m (List.replicate n zs)) :: objs)) : AO P w0 N ops Q ⟨some d, .makeSlice T x x, T0, pos, af, g⟩ rest env objs := adu rfl rfl hN hx hn hT hz hm hm0 hB hbig h
end
section
variable {P : Program} {w0 : World} {N : Nat} {Q : Exit -> Act -> World -> Prop} {env : Env} {objs objs' : aH}
theorem Sim.pick {a : Act} {w : World} (h : Sim w0 N env objs a w) (k : de objs' objs) : Sim w0 N env objs' a w := h.weak ⟨fun _ _ h => h, k⟩
theorem adZ {c : Code} (k : de objs' objs) (h : AW P w0 N c Q env objs') : AW P w0 N c Q env objs := ⟨fun a w hs => h.run a w (hs.pick k)⟩
theorem cI {ops : Array Oper} {rest : List Oper} (k : de objs' objs) (h : AL P w0 N ops Q rest env objs') : AL P w0 N ops Q rest env objs := ⟨fun a w hs => h.run a w (hs.pick k)⟩
theorem wN {ops : Array Oper} {rest : List Oper} (k : objs = objs') (h : AL P w0 N ops Q rest env objs') : AL P w0 N ops Q rest env objs := k ▸ h
structure afN (p : Prop) : Prop where
 go : p
theorem t7 {id : Nat} {ops : Array Oper} {b : Bool} {y : Code} (h : afN (AW P w0 N (.seq (.region id ops b) y) Q env objs)) : AW P w0 N (.seq (.region id ops b) y) Q env objs := h.go
theorem bD {ops : Array Oper} {rest : List Oper} {l : aH} (h : AL P w0 N ops Q rest env l) : AL P w0 N ops Q rest env ([] ++ l) := h
theorem bm {ops : Array Oper} {rest : List Oper} {x : Nat × Nat × bj} {l : aH} (h : AL P w0 N ops Q rest env (x :: l)) : AL P w0 N ops Q rest env ([x] ++ l) := h
theorem aaG {ops : Array Oper} {rest : List Oper} {x y : Nat × Nat × bj} {l : aH} (h : AL P w0 N ops Q rest env (x :: y :: l)) : AL P w0 N ops Q rest env ([x, y] ++ l) := h
theorem yM {objsOf : Nat -> List (List TV) -> aH} {ops : Array Oper} {rest : List Oper} {d T0 : Nat} {pos : String} {af : Array Edge} {g : Option (Nat × Bool)} {T s b off len n m : Nat} {x y : Operand} {f : Nat} {rows live news : List (List TV)} (hN : Nat.blt d N = true) (hx : ev env x = some (.ms s b off len)) (hy : ev env y = some (.sl f m news)) (hT : kZ P T m = true) (hm : (s, b, bj.row m rows) ∈ objs)
   (hlive : (rows.drop off).take len = live) (hl : off + len <= rows.length) (hn : news.length = n) (hbig : len + n <= 1000000000) (hu : ∀ b2 pre, Upd (s, b, .row m rows) (s, b2, .row m (pre ++ (live ++ news))) objs (objsOf b2 pre)) (h : ∀ b2 pre, AL P w0 N ops Q rest ((d, .ms s b2 pre.length (len + n)) :: env) (objsOf b2 pre)) :
   AO P w0 N ops Q ⟨some d, .call { callee := .builtin .append, args := #[x, y], argTypes := #[T, T] }, T0, pos, af, g⟩ rest env objs := vP rfl rfl hN hx hy hT hl hn hbig hlive hu fun b2 pre _ => h b2 pre
inductive jq (env : Env) : List Nat -> Env -> Prop
 | nil : jq env [] []
 | cons (t : Nat) (v : TV) (l : List Nat) (e : Env) (h : lk t env = some v) (hr : jq env l e) : jq env (t :: l) ((t, v) :: e)
theorem jq.weak {l : List Nat} {e : Env} (h : jq env l e) : ∀ t v, lk t e = some v -> lk t env = some v := by
 induction h with
 | nil => exact dg.envNil
 | cons t v l e h hr ih => exact dg.envCons h ih
theorem abl {t : Nat} : ∀ {e1 e2 : Env} {v : TV}, lk t (e1 ++ e2) = some v -> lk t e1 = some v \/ lk t e2 = some v
 | [], _, _, h => .inr h
 | (s, u) :: r, e2, v, h => by
   rw [List.cons_append, bV] at h
   rw [bV]
   split at h
   ·rename_i e; rw [if_pos e]; exact .inl h
   ·rename_i e; rw [if_neg e]; exact abl h
theorem dg.of (new : Env) {e1 : Env} (h1 : ∀ t v, lk t new = some v -> lk t env = some v) (h2 : ∀ t v, lk t e1 = some v -> lk t env = some v) (hp : de objs' objs) : dg env objs (new ++ e1) objs' :=
 ⟨fun t v h => (abl h).elim (h1 t v) (h2 t v), hp⟩
theorem ak {X : Type} {body : Code} (keep : List Nat) (new : X -> Env) (O : X -> aH) (I : X -> Prop) (μ : X -> Nat) (x0 : X) (h0 : I x0) {e1 : Env} (hk : jq env keep e1) (hw : ∀ t v, lk t (new x0) = some v -> lk t env = some v) (hp : de (O x0) objs)
   (round : ∀ x, I x -> AW P w0 N body (Exit.then (af5 w0 N (fun x => new x ++ e1) O I μ (μ x)) Q) (new x ++ e1) (O x)) : AW P w0 N (.loop body) Q env objs :=
 adU (fun x => new x ++ e1) O I μ x0 h0 (.of _ hw hk.weak hp) round
theorem sx {id : Nat} {c : Code} (h : afN (AW P w0 N (.block id c) Q env objs)) : AW P w0 N (.block id c) Q env objs := h.go
theorem fh {X : Type} {x z : Code} (keep : List Nat) (new : X -> Env) (O : X -> aH) (I : X -> Prop) {e1 : Env} (hk : jq env keep e1) (h1 : AW P w0 N x (Exit.then (agc w0 N (fun x => new x ++ e1) O I) Q) env objs) (h2 : ∀ y, I y -> AW P w0 N z Q (new y ++ e1) (O y)) : AW P w0 N x (Exit.then (z.wp P Q) Q) env objs := ⟨fun a w hs => by
 have _ := hk
 refine wp_mono (h1.run a w hs) fun e a' w' hq => ?_
 cases e with
 | normal =>
   obtain ⟨y, hy, hs'⟩ := hq
   exact (h2 y hy).run a' w' hs'
 | exit id => exact hq
 | goto l => exact hq
 | ret => exact hq
 | panic c => exact hq
 | outgrown => exact hq⟩
theorem yI {t : Nat} {env : Env} {s b off m n : Nat} (h : lk t env = some (.ms s b off m)) (e : m = n) : lk t env = some (.ms s b off n) := e ▸ h
theorem aeF {t : Nat} {env : Env} {s b off m off' n : Nat} (h : lk t env = some (.ms s b off m)) (e0 : off = off') (e : m = n) : lk t env = some (.ms s b off' n) := e0 ▸ e ▸ h
inductive zr (s b : Nat) (o : bj) : aH -> aH -> Prop
 | head (l : aH) : zr s b o ((s, b, o) :: l) l
 | tail (s' b' : Nat) (o' : bj) (l l' : aH) (h : zr s b o l l') : zr s b o ((s', b', o') :: l) ((s', b', o') :: l')
theorem zr.del {s b : Nat} {o : bj} {l l' : aH} (h : zr s b o l l') : Del (s, b, o) l l' := by
 induction h with
 | head l => exact .head l
 | tail s' b' o' l l' h ih => exact .tail _ _ _ ih
theorem de.consE {s b : Nat} {o o' : bj} {l l1 objs : aH} (hd : zr s b o' objs l1) (h : o = o') (k : de l l1) : de ((s, b, o) :: l) objs := h ▸ .cons hd.del k
theorem xF (w : World) (ss m : Nat) (hm : 0 < m) : lb w objs w ((ss, 0, .row m []) :: objs) :=
 ⟨fun _ _ _ => rfl, fun b _ ha => ⟨ha.1, by
   obtain ⟨h0, s, o, hm⟩ := ha
   rcases List.mem_cons.1 hm with he | hm
   ·simp only [Prod.mk.injEq] at he; omega
   ·exact ⟨s, o, hm⟩⟩, fun s b m' rows _ hb hm' => by
   rcases List.mem_cons.1 hm' with he | hm'
   ·simp only [Prod.mk.injEq] at he; omega
   ·exact ⟨⟨rows, hm'⟩, rfl⟩, Nat.le_refl _, fun hk => by
   rcases List.mem_cons.1 hk with he | hk
   ·simp only [cY, Prod.mk.injEq, bj.row.injEq] at he; omega
   ·exact hk⟩
theorem dv.nil {w : World} (hw : dv w0 objs w) {ss m : Nat} (hm : 0 < m) (hs : ∀ x ∈ objs, x.1 ≠ ss) : dv w0 ((ss, 0, .row m []) :: objs) w :=
 ⟨hw.below, hw.pos, fun s b o h => by
   rcases List.mem_cons.1 h with he | h
   ·simp only [Prod.mk.injEq] at he
    obtain ⟨rfl, rfl, rfl⟩ := he
    exact ⟨⟨hm, by simp⟩, by simp, .inl ⟨rfl, rfl⟩⟩
   ·exact (hw.obj s b o h).step (xF w ss m hm) rfl, List.pairwise_cons.2 ⟨fun y hy => ⟨(hs y hy).symm, .inr rfl⟩, hw.sites⟩⟩
theorem Sim.nil {a : Act} {w : World} (h : Sim w0 N env objs a w) {t : Nat} (m : Nat) (hm : 0 < m) (ht : lk t env = some .nils) : ∃ ss, Sim w0 N ((t, .ms ss 0 0 0) :: env) ((ss, 0, .row m []) :: objs) a w := by
 obtain ⟨ss, hss⟩ := e9 objs
 have hpos : 0 < w.heap.size := Nat.lt_of_lt_of_le h.mem.pos h.mem.below.size
 have hw := h.mem.nil hm hss
 refine ⟨ss, h.defers, h.size, hw, fun t' v hv => ?_⟩
 rw [bV] at hv
 split at hv
 ·rename_i e
  subst e
  simp only [Option.some.injEq] at hv
  subst hv
  have h1 := h.env _ _ ht
  generalize a.tmps.getD t undef = u at h1
  cases h1
  exact .ms ss 0 0 0 _ (.mk ⟨hpos, hw.noMark, none, 0, rfl⟩ (fun _ _ _ => .inl ⟨rfl, rfl, rfl, rfl⟩) fun _ => ⟨rfl, rfl, rfl⟩)
 ·exact (h.env t' v hv).step (xF w ss m hm)
theorem dT {x : Exit} (t m : Nat) (hm : 0 < m) (ht : lk t env = some .nils) (h : ∀ ss, AQ w0 N Q x ((t, .ms ss 0 0 0) :: env) ((ss, 0, .row m []) :: objs)) : AQ w0 N Q x env objs := ⟨fun a w hs => by
 obtain ⟨ss, h1⟩ := hs.nil m hm ht
 exact (h ss).run a w h1⟩
end
def CtM (P : Program) (G : World -> Prop) (f : FuncId) (args : List TV) (objs : aH) {Y : Type} (I : Y -> Prop) (O : Y -> aH) (r : Y -> TV) : Prop :=
 ∀ (w0 w : World) (R : aH) (gs : List (TV × Value)) (vs : Array Value), G w0 -> dv w0 (objs ++ R) w -> Rep w (objs ++ R) (.gh gs) undef -> vs.size = args.length -> (∀ (i : Nat) (t : TV) (v : Value), args[i]? = some t -> vs[i]? = some v -> Rep w (objs ++ R) t v) ->
   Calls P f vs w fun e w' => ∃ v y, e = .returned v /\ I y /\ dv w0 (O y ++ R) w' /\ Rep w' (O y ++ R) (.gh gs) undef /\ Rep w' (O y ++ R) (r y) v
inductive uW : aH -> aH -> aH -> Prop
 | nil (R : aH) : uW [] R R
 | cons (x : Nat × Nat × bj) (l R l' : aH) (h : uW l R l') : uW (x :: l) R (x :: l')
 | app (l R : aH) : uW l R (l ++ R)
theorem uW.eq {l R l' : aH} (h : uW l R l') : l ++ R = l' := by
 induction h with
 | nil R => rfl
 | cons x l R l' h ih => rw [List.cons_append, ih]
 | app l R => rfl
theorem uW.inv0 {R l : aH} (h : uW [] R l) : R = l := h.eq
theorem uW.inv1 {x : Nat × Nat × bj} {R l : aH} (h : uW [x] R l) : l = x :: R := h.eq.symm
def aeQ (w0 : World) (R : aH) (gs : List (TV × Value)) {Y : Type} (I : Y -> Prop) (O : Y -> aH) (r : Y -> TV) : Ending -> World -> Prop := fun e w' =>
 ∃ v y, e = .returned v /\ I y /\ dv w0 (O y ++ R) w' /\ Rep w' (O y ++ R) (.gh gs) undef /\ Rep w' (O y ++ R) (r y) v
theorem aC {P : Program} {G : World -> Prop} {f : FuncId} {fn : Func} {c : Code} {args : List TV} {objs : aH} {Y : Type} {I : Y -> Prop} {O : Y -> aH} {r : Y -> TV} {N : Nat} {env : Env} (hf : P.funcs[f]? = some fn) (hb : fn.body = some c) (hn : fn.ntmps = N) (hN : Nat.ble args.length N = true) (hN2 : Nat.ble N 1000000 = true) (he : pK 0 args = env)
   (h : ∀ w0 R gs objsR, G w0 -> uW objs R objsR -> AW P w0 N c (bodyPost P fn (aeQ w0 R gs I O r)) (env ++ [(1000000, .gh gs)]) objsR) : CtM P G f args objs I O r := fun w0 w R gs vs hG hw hgs hsz hrep => by
 have hN := Nat.le_of_ble_eq_true hN
 have hN2 := Nat.le_of_ble_eq_true hN2
 subst he
 refine calls_of_wp hf hb ((h w0 R gs (objs ++ R) hG (.app _ _)).run _ w ⟨rfl, ?_, hw, fun t v hv => ?_⟩)
 ·simp [hn, hsz]; omega
 ·rcases abl hv with hv | hv
  ·obtain ⟨_, h2⟩ := nK hv
   rw [Nat.sub_zero] at h2
   have hlt : t < vs.size := by rw [hsz]; exact (List.getElem?_eq_some_iff.1 h2).1
   have : (vs ++ Array.replicate (fn.ntmps - vs.size) undef).getD t undef = vs[t] := by simp [Array.getElem?_append_left hlt, hlt]
   rw [this]
   exact hrep t v _ h2 (by simp [hlt])
  ·rw [bV] at hv
   split at hv
   ·simp only [Option.some.injEq] at hv
    subst hv
    cases hgs with
    | gh l v h => exact .gh gs _ h
   ·simp [lk] at hv
section
variable {P : Program} {w0 : World} {N : Nat} {Q : Exit -> Act -> World -> Prop} {env : Env} {objs objs' : aH} {o : Oper}
theorem xm {fn : Func} {R : aH} {gs : List (TV × Value)} {Y : Type} {I : Y -> Prop} {O : Y -> aH} {r : Y -> TV} {x : Exit} (hx : x = .normal \/ x = .ret) {a : Act} {w : World} (hs : Sim w0 N env objs a w) (y : Y) (hI : I y) (hg : lk 1000000 env = some (.gh gs)) (hp : de (O y ++ R) objs) {v : Value} (hr : (results fn a.tmps).run P w = .ok v w) (hv : Rep w objs (r y) v) : bodyPost P fn (aeQ w0 R gs I O r) x a w := by
 have h1 : aeQ w0 R gs I O r (.returned v) w := by
   have h2 := hs.env _ _ hg
   refine ⟨v, y, rfl, hI, hs.mem.sub hp, ?_, hv.step (gS hp w)⟩
   generalize a.tmps.getD 1000000 undef = u at h2
   cases h2 with
   | gh l v h => exact .gh gs _ fun i t u hi => (h i t u hi).step (gS hp w)
 rcases hx with rfl | rfl
 ·exact ⟨hs.defers, v, hr, h1⟩
 ·exact ⟨hs.defers, v, hr, h1⟩
section
variable {fn : Func} {R : aH} {gs : List (TV × Value)} {Y : Type} {I : Y -> Prop} {O : Y -> aH} {r : Y -> TV} {x : Exit}
theorem av {r1 : ResultVar} {t1 : TV} (hx : x = .normal \/ x = .ret) (hres : fn.results = #[r1]) (y : Y) (hI : I y) (hg : lk 1000000 env = some (.gh gs)) {l : aH} (ho : uW (O y) R l) (hp : de l objs) (h1 : RV P env objs r1 t1) (hr : r y = t1) : AQ w0 N (bodyPost P fn (aeQ w0 R gs I O r)) x env objs := ⟨fun a w hs => by
 obtain ⟨v1, e1, g1⟩ := ks hs h1
 refine xm hx hs y hI hg (ho.eq ▸ hp) (v := v1) ?_ (by rw [hr]; exact g1)
 have : results fn a.tmps = (#[r1].mapM (ud a.tmps)) >>= fun vs => pure (if h : vs.size = 1 then vs[0] else .tuple vs) := by rw [<- hres]; rfl
 rw [this]
 simp [Sem.run_bind, e1, Sem.run_pure]⟩
theorem cD {r1 r2 : ResultVar} {t1 t2 : TV} (hx : x = .normal \/ x = .ret) (hres : fn.results = #[r1, r2]) (y : Y) (hI : I y) (hg : lk 1000000 env = some (.gh gs)) {l : aH} (ho : uW (O y) R l) (hp : de l objs) (h1 : RV P env objs r1 t1) (h2 : RV P env objs r2 t2) (hr : r y = .tup [t1, t2]) : AQ w0 N (bodyPost P fn (aeQ w0 R gs I O r)) x env objs := ⟨fun a w hs => by
 obtain ⟨v1, e1, g1⟩ := ks hs h1
 obtain ⟨v2, e2, g2⟩ := ks hs h2
 refine xm hx hs y hI hg (ho.eq ▸ hp) (v := .tuple #[v1, v2]) ?_ (by rw [hr]; exact xL g1 g2)
 have : results fn a.tmps = (#[r1, r2].mapM (ud a.tmps)) >>= fun vs => pure (if h : vs.size = 1 then vs[0] else .tuple vs) := by rw [<- hres]; rfl
 rw [this]
 simp [Sem.run_bind, e1, e2, Sem.run_pure]⟩
end
inductive aF (env : Env) : List Operand -> List TV -> Prop
 | nil : aF env [] []
 | cons (x : Operand) (xs : List Operand) (t : TV) (ts : List TV) (h : ev env x = some t) (hr : aF env xs ts) : aF env (x :: xs) (t :: ts)
theorem zX {w : World} {a : Act} {xs : List Operand} {ts : List TV} (h : aF env xs ts) (hop : ∀ x ∈ xs, ∀ v, ev env x = some v -> Rep w objs v (a.eval x)) : (xs.map a.eval).length = ts.length /\ ∀ (i : Nat) (t : TV) (v : Value), ts[i]? = some t -> (xs.map a.eval)[i]? = some v -> Rep w objs t v := by
 induction h with
 | nil => simp
 | cons x xs t ts h hr ih =>
   obtain ⟨h1, h2⟩ := ih (fun y hy => hop y (by simp [hy]))
   refine ⟨by simpa using h1, fun i u v hu hv' => ?_⟩
   cases i with
   | zero => simp at hu hv'; subst hu; subst hv'; exact hop x (by simp) t h
   | succ i => exact h2 i u v (by simpa using hu) (by simpa using hv')
def tb (env : Env) (a : Act) : List (TV × Value) := env.map fun p => ((lk p.1 env).getD .top, a.tmps.getD p.1 undef)
theorem ac7 {t : Nat} : ∀ {env : Env} {v : TV}, lk t env = some v -> ∃ u, (t, u) ∈ env
 | [], _, h => by simp [lk] at h
 | (s, u) :: r, v, h => by
   rw [bV] at h
   split at h
   ·rename_i e; subst e; exact ⟨u, List.mem_cons_self⟩
   ·obtain ⟨u', h'⟩ := ac7 h; exact ⟨u', List.mem_cons_of_mem _ h'⟩
theorem ac0 {t : Nat} : ∀ {env : Env} {u : TV}, (t, u) ∈ env -> ∃ v, lk t env = some v
 | [], _, h => by simp at h
 | (s, u) :: r, u', h => by
   rw [bV]
   by_cases e : s = t
   ·exact ⟨u, by rw [if_pos e]⟩
   ·rw [if_neg e]
    rcases List.mem_cons.1 h with he | h
    ·simp only [Prod.mk.injEq] at he; exact absurd he.1.symm e
    ·exact ac0 h
theorem yt {a : Act} {w : World} (hs : Sim w0 N env objs a w) : Rep w objs (.gh (tb env a)) undef := .gh _ _ fun i t u hi => by
 unfold tb at hi
 rw [List.getElem?_map] at hi
 obtain ⟨p, hp, he⟩ := Option.map_eq_some_iff.1 hi
 simp only [Prod.mk.injEq] at he
 obtain ⟨v, hv⟩ := ac0 (List.mem_of_getElem? hp)
 rw [hv, Option.getD_some] at he
 rw [<- he.1, <- he.2]
 exact hs.env _ _ hv
theorem ym {a : Act} {w' : World} (h : Rep w' objs' (.gh (tb env a)) undef) : ∀ t v, lk t env = some v -> Rep w' objs' v (a.tmps.getD t undef) := fun t v hv => by
 obtain ⟨u, hu⟩ := ac7 hv
 obtain ⟨i, hi, he⟩ := List.getElem_of_mem hu
 cases h with
 | gh l v' h =>
   refine h i v _ ?_
   unfold tb
   rw [List.getElem?_map, List.getElem?_eq_getElem hi, Option.map_some, he]
   simp [hv]
theorem abV {G : World -> Prop} {ops : Array Oper} {rest : List Oper} {f : Nat} {xs : List Operand} {ts : Array TypeId} {args : List TV} {objsC R : aH} {Y : Type} {I : Y -> Prop} {O : Y -> aH} {r : Y -> TV} (ho : o.op = .call { callee := .value (.func f), args := xs.toArray, argTypes := ts }) (hc : ig P f = true) (hargs : aF env xs args)
   (hct : CtM P G f args objsC I O r) (hG : G w0) (hap : uW objsC R objs) (hpk : ∀ y, I y -> ∀ v w' a, Sim w0 N env (O y ++ R) a w' -> Rep w' (O y ++ R) (r y) v -> wpList P ops Q rest (a.put o.dst v) w') : AO P w0 N ops Q o rest env objs := ⟨fun a w K hs hK => by
 have heq := hap.eq
 subst heq
 obtain ⟨h1, h2⟩ := zX (objs := objsC ++ R) (w := w) (a := a) hargs (fun x _ v hv => ei hs hv)
 unfold Oper.wp
 rw [oz ho hc]
 refine (hct w0 w R (tb env a) (xs.map a.eval).toArray hG hs.mem (yt hs) (by simpa using h1) (fun i t v ht hv => h2 i t v ht (by simpa using hv))).mono ?_
 rintro e w' ⟨v, y, rfl, hI, hw', hg, hr⟩
 exact hK _ _ (hpk y hI v w' a ⟨hs.defers, hs.size, hw', ym hg⟩ hr)⟩
theorem zW {a : Act} {w' : World} (hs : Sim w0 N env objs a w') {d : Nat} (hd : Nat.blt d N = true) {tv : TV} {v : Value} (hr : Rep w' objs tv v) : Sim w0 N ((d, tv) :: env) objs (a.put (some d) v) w' := hs.putNew hd hr hs.mem (iO _ _)
theorem aG {G : World -> Prop} {ops : Array Oper} {rest : List Oper} {d T0 : Nat} {pos : String} {af : Array Edge} {g : Option (Nat × Bool)} {f : Nat} {xs : List Operand} {ts : Array TypeId} {args : List TV} {objsC R : aH} {Y : Type} {I : Y -> Prop} {O : Y -> aH} {r : Y -> TV} (hN : Nat.blt d N = true) (hc : ig P f = true) (hargs : aF env xs args)
   (hG : G w0) (hct : CtM P G f args objsC I O r) (hap : uW objsC R objs) (h : ∀ y, I y -> AL P w0 N ops Q rest ((d, r y) :: env) (O y ++ R)) : AO P w0 N ops Q ⟨some d, .call { callee := .value (.func f), args := xs.toArray, argTypes := ts }, T0, pos, af, g⟩ rest env objs :=
 abV rfl hc hargs hct hG hap fun y hI v w' a hs hr => (h y hI).run _ _ (zW hs hN hr)
end
inductive jk (objs : aH) : TV -> Prop
 | flat (t : TV) (h : t.flat = true) : jk objs t
 | nils : jk objs .nils
 | ms (s b off len m : Nat) (rows : List (List TV)) (hm : (s, b, bj.row m rows) ∈ objs) : jk objs (.ms s b off len)
 | agg (l : List TV) (h : ∀ t ∈ l, jk objs t) : jk objs (.agg l)
 | tup (l : List TV) (h : ∀ t ∈ l, jk objs t) : jk objs (.tup l)
def kK (objs : aH) : bj -> Prop
 | .row _ rows => ∀ t ∈ rows.flatten, jk objs t
 | .box cells => ∀ t ∈ cells, jk objs t
 | .void => False
 | .iter _ _ => False
def nD (objs : aH) : aH := objs.map fun x => (x.1, 0, bj.void)
theorem j4 {objs : aH} {x : Nat × Nat × bj} (h : x ∈ nD objs) : ∃ y ∈ objs, x = (y.1, 0, bj.void) := by
 obtain ⟨y, hy, rfl⟩ := List.mem_map.1 h
 exact ⟨y, hy, rfl⟩
theorem vy {objs : aH} (h : List.Pairwise ex objs) : List.Pairwise ex (nD objs) := by
 unfold nD
 rw [List.pairwise_map]
 exact h.imp fun h => ⟨h.1, .inr rfl⟩
section
variable {P : Program} {w0 : World} {N : Nat} {Q : Exit -> Act -> World -> Prop} {env : Env} {objs objs' : aH} {o : Oper}
theorem x5 (w : World) (l : aH) : lb w [] w (nD l) :=
 ⟨fun _ _ _ => rfl, fun b _ ha => by
   obtain ⟨h0, s, o, hm⟩ := ha
   obtain ⟨y, _, he⟩ := j4 hm
   simp only [Prod.mk.injEq] at he
   exact absurd he.2.1 h0, fun s b m rows _ hb hm => by
   obtain ⟨y, _, he⟩ := j4 hm
   simp only [Prod.mk.injEq] at he
   exact absurd he.2.1 hb, Nat.le_refl _, fun hk => by
   obtain ⟨y, _, he⟩ := j4 hk
   simp [cY] at he⟩
theorem x6 {w : World} (hw : dv w0 objs w) : dv w (nD objs) w :=
 ⟨Below.refl _ _, Nat.lt_of_lt_of_le hw.pos hw.below.size, fun s b o hm => by
   obtain ⟨y, _, he⟩ := j4 hm
   simp only [Prod.mk.injEq] at he
   obtain ⟨rfl, rfl, rfl⟩ := he
   rfl, vy hw.sites⟩
theorem acd {w : World} {objs objs' : aH} {t : TV} {v : Value} (hf : t.flat = true) (h : Rep w objs t v) : Rep w objs' t v := by
 cases h with
 | int k n => exact .int k n
 | bool b => exact .bool b
 | str s => exact .str s
 | nilp => exact .nilp
 | nilf => exact .nilf
 | _ => cases hf
theorem kj {w w' : World} {O : aH} (hD : dv w (O ++ nD objs) w') (hO : ∀ s b o, (s, b, o) ∈ O -> kK O o) {s b : Nat} {o : bj} (hm : (s, b, o) ∈ O) : b = 0 \/ w.heap.size <= b := by
 have h1 := hD.obj s b o (List.mem_append_left _ hm)
 have h2 := hO s b o hm
 cases o with
 | row m rows => exact h1.2.2.imp (fun h => h.1) (fun h => h.1)
 | box cells => exact .inr h1.1.1
 | void => exact absurd h2 id
 | iter _ _ => exact absurd h2 id
theorem uN {w w' : World} {O : aH} (hw : dv w0 objs w) (hD : dv w (O ++ nD objs) w') (hO : ∀ s b o, (s, b, o) ∈ O -> kK O o) {t : TV} {v : Value} (hn : jk O t) (h : Rep w' (O ++ nD objs) t v) : Rep w' (O ++ objs) t v := by
 induction hn generalizing v with
 | flat t hf => exact acd hf h
 | nils => cases h; exact .nils
 | ms s b off len m rows hm =>
   cases h with
   | ms _ _ _ _ _ h =>
     obtain ⟨⟨h1, h2, h3⟩, h4, h5⟩ := h
     refine .ms _ _ _ _ _ ⟨⟨h1, fun hk => ?_, h3⟩, h4, fun m' rows' hb hm' => ?_⟩
     ·rcases List.mem_append.1 hk with hk | hk
      ·exact h2 (List.mem_append_left _ hk)
      ·exact hw.noMark hk
     ·rcases List.mem_append.1 hm' with hm' | hm'
      ·exact h5 m' rows' hb (List.mem_append_left _ hm')
      ·have := df hw hm'
       rcases kj hD hO hm with e | e
       ·exact absurd e hb
       ·omega
 | agg l hl ih =>
   cases h with
   | agg l vs hi h1 h2 => exact .agg l vs hi h1 fun i t v ht hv => ih t (List.mem_of_getElem? ht) (h2 i t v ht hv)
 | tup l hl ih =>
   cases h with
   | tup l vs h1 h2 => exact .tup l vs h1 fun i t v ht hv => ih t (List.mem_of_getElem? ht) (h2 i t v ht hv)
theorem xa {w w' : World} {O : aH} (hw : dv w0 objs w) (hD : dv w (O ++ nD objs) w') (hO : ∀ s b o, (s, b, o) ∈ O -> kK O o) : lb w objs w' (O ++ objs) :=
 ⟨fun b hb _ => hD.below.block b hb, fun b hb ha => by
   obtain ⟨h0, s, o, hm⟩ := ha
   rcases List.mem_append.1 hm with hm | hm
   ·rcases kj hD hO hm with e | e
    ·exact absurd e h0
    ·omega
   ·exact ⟨h0, s, o, hm⟩, fun s b m rows hb h0 hm => by
   rcases List.mem_append.1 hm with hm | hm
   ·rcases kj hD hO hm with e | e
    ·exact absurd e h0
    ·omega
   ·exact ⟨⟨rows, hm⟩, f7 (hD.below.block b hb)⟩, hD.below.size, fun hk => by
   rcases List.mem_append.1 hk with hk | hk
   ·exact absurd (List.mem_append_left _ hk) hD.noMark
   ·exact hk⟩
theorem acl {w w' : World} {O : aH} (hw : dv w0 objs w) (hD : dv w (O ++ nD objs) w') (hO : ∀ s b o, (s, b, o) ∈ O -> kK O o) : dv w0 (O ++ objs) w' := by
 have hst := xa hw hD hO
 have hle := hw.below.size
 refine ⟨hw.below.trans (hD.below.mono hle), hw.pos, fun s b o hm => ?_, ?_⟩
 ·rcases List.mem_append.1 hm with hm | hm
  ·have h1 := hD.obj s b o (List.mem_append_left _ hm)
   have h2 := hO s b o hm
   cases o with
   | row m rows =>
     refine ⟨h1.1, h1.2.1, h1.2.2.imp id fun ⟨g1, cur, e, cap, g2, g3, g4, g5, g6⟩ => ⟨Nat.le_trans hle g1, cur, e, cap, g2, g3, g4, g5, fun j t hj => ?_⟩⟩
     obtain ⟨v, g7, g8⟩ := g6 j t hj
     exact ⟨v, g7, uN hw hD hO (h2 t (List.mem_of_getElem? hj)) g8⟩
   | box cells =>
     obtain ⟨⟨g1, g0⟩, cur, e, g2, g3, g6⟩ := h1
     refine ⟨⟨Nat.le_trans hle g1, g0⟩, cur, e, g2, g3, fun j t hj => ?_⟩
     obtain ⟨v, g7, g8⟩ := g6 j t hj
     exact ⟨v, g7, uN hw hD hO (h2 t (List.mem_of_getElem? hj)) g8⟩
   | void => exact absurd h2 id
   | iter _ _ => exact absurd h2 id
  ·exact (hw.obj s b o hm).step hst (hD.below.block b (df hw hm))
 ·obtain ⟨p1, _, p3⟩ := List.pairwise_append.1 hD.sites
  refine List.pairwise_append.2 ⟨p1, hw.sites, fun x hx y hy => ?_⟩
  refine ⟨(p3 x hx (y.1, 0, .void) (List.mem_map.2 ⟨y, hy, rfl⟩)).1, ?_⟩
  rcases kj hD hO (s := x.1) (b := x.2.1) (o := x.2.2) hx with e | e
  ·exact .inr e
  ·have := df (s := y.1) (b := y.2.1) (ob := y.2.2) hw hy
   exact .inl (by omega)
theorem acC {G : World -> Prop} {ops : Array Oper} {rest : List Oper} {f : Nat} {xs : List Operand} {ts : Array TypeId} {args : List TV} {Y : Type} {I : Y -> Prop} {O : Y -> aH} {r : Y -> TV} (ho : o.op = .call { callee := .value (.func f), args := xs.toArray, argTypes := ts }) (hc : ig P f = true) (hargs : ca env objs xs args)
   (hct : CtM P G f args [] I O r) (hG : G w0) (hst : aB G) (hnew : ∀ y, I y -> (∀ s b o, (s, b, o) ∈ O y -> kK (O y) o) /\ jk (O y) (r y)) (h : ∀ y, I y -> ∀ v w' a, Sim w0 N env (O y ++ objs) a w' -> Rep w' (O y ++ objs) (r y) v -> wpList P ops Q rest (a.put o.dst v) w') : AO P w0 N ops Q o rest env objs := ⟨fun a w K hs hK => by
 obtain ⟨h1, h2⟩ := qJ hs.mem (a := a) hargs (fun x _ v hv => ei hs hv)
 unfold Oper.wp
 rw [oz ho hc]
 have hw := x6 hs.mem
 refine (hct w w (nD objs) [] (xs.map a.eval).toArray (hst.below _ _ hG hs.mem.below) (by simpa using hw) (.gh _ _ (by simp)) (by simpa using h1) (fun i t v ht hv => ?_)).mono ?_
 ·exact (h2 i t v ht (by simpa using hv)).step (by simpa using x5 w objs)
 ·rintro e w' ⟨v, y, rfl, hI, hw', _, hr⟩
  obtain ⟨n1, n2⟩ := hnew y hI
  have hst' := xa hs.mem hw' n1
  exact hK _ _ (h y hI v w' a ⟨hs.defers, hs.size, acl hs.mem hw' n1, fun t u hu => (hs.env t u hu).step hst'⟩ (uN hs.mem hw' n1 n2 hr))⟩
theorem lH {G : World -> Prop} {ops : Array Oper} {rest : List Oper} {d T0 : Nat} {pos : String} {af : Array Edge} {g : Option (Nat × Bool)} {f : Nat} {xs : List Operand} {ts : Array TypeId} {args : List TV} {r : Nat -> TV} (hN : Nat.blt d N = true) (hc : ig P f = true) (hG : G w0) (hst : aB G) (hct : Ct P G f args r) (hargs : ca env objs xs args)
   (h : AL P w0 N ops Q rest ((d, r w0.heap.size) :: env) objs) : AO P w0 N ops Q ⟨some d, .call { callee := .value (.func f), args := xs.toArray, argTypes := ts }, T0, pos, af, g⟩ rest env objs := uI rfl hN (xI rfl hc hargs hct hG hst) h
theorem dX {G : World -> Prop} {ops : Array Oper} {rest : List Oper} {d T0 : Nat} {pos : String} {af : Array Edge} {g : Option (Nat × Bool)} {f : Nat} {xs : List Operand} {ts : Array TypeId} {args : List TV} {Y : Type} {I : Y -> Prop} {O : Y -> aH} {r : Y -> TV} (hN : Nat.blt d N = true) (hc : ig P f = true)
   (hG : G w0) (hst : aB G) (hct : CtM P G f args [] I O r) (hargs : ca env objs xs args) (hnew : ∀ y, I y -> (∀ s b o, (s, b, o) ∈ O y -> kK (O y) o) /\ jk (O y) (r y)) (h : ∀ y, I y -> AL P w0 N ops Q rest ((d, r y) :: env) (O y ++ objs)) : AO P w0 N ops Q ⟨some d, .call { callee := .value (.func f), args := xs.toArray, argTypes := ts }, T0, pos, af, g⟩ rest env objs :=
 acC rfl hc hargs hct hG hst hnew fun y hI v w' a hs hr => (h y hI).run _ _ (zW hs hN hr)
theorem aaw {G : World -> Prop} {K : Env -> Prop} {ops : Array Oper} {rest : List Oper} {d T0 : Nat} {pos : String} {af : Array Edge} {g : Option (Nat × Bool)} {f : Nat} {xs : List Operand} {ts : Array TypeId} {args : List TV} {r : Nat -> TV} (hN : Nat.blt d N = true) (hc : ig P f = true) (hG : G w0) (hst : aB G) (hct : Ct P G f args r) (hargs : ca env objs xs args)
   (h : DR P w0 N ops objs K rest ((d, r w0.heap.size) :: env)) : DO P w0 N ops objs K ⟨some d, .call { callee := .value (.func f), args := xs.toArray, argTypes := ts }, T0, pos, af, g⟩ rest env := ⟨fun hgr => .run _ _ _ _ _ rfl hN hgr (xI rfl hc hargs hct hG hst) h⟩
theorem bU.msAll {s b len m : Nat} {rows : List (List TV)} (hm : (s, b, bj.row m rows) ∈ objs) (hl : rows.length = len) : bU objs (.ms s b 0 len) (.sl 0 m rows) := by
 subst hl
 exact .msSame hm (by omega) (by simp)
theorem rJ {objs : aH} {rows : List (List TV)} (h : ∀ t ∈ rows.flatten, t.flat = true) : ∀ t ∈ rows.flatten, jk objs t := fun t ht => .flat t (h t ht)
theorem aaA {G : World -> Prop} {f : FuncId} {args : List TV} {Y : Type} {I : Y -> Prop} {O : Y -> aH} {r : Y -> TV} {r' : Nat -> TV} (hct : CtM P G f args [] I O r) (hf : ∀ y, I y -> ∀ B L, Fin B (O y) L (r y) (r' L)) : Ct P G f args r' := fun w vs hpos hG hsz hrep => by
 have hw : dv w [] w := ⟨Below.refl _ _, hpos, by simp, .nil⟩
 refine (hct w w [] [] vs hG (by simpa using hw) (.gh _ _ (by simp)) hsz (by simpa using hrep)).mono ?_
 rintro e w' ⟨v, y, rfl, hI, hw', _, hr⟩
 rw [List.append_nil] at hw' hr
 exact ⟨v, rfl, hw'.below, fun L hL => jX hw' hL (hf y hI _ L) hr⟩
end
section
variable {P : Program} {w0 : World} {N : Nat} {Q : Exit -> Act -> World -> Prop} {env : Env} {objs objs' : aH} {o : Oper}
theorem adE {K : Env -> Prop} {ops : Array Oper} {rest : List Oper} {d T0 : Nat} {pos : String} {af : Array Edge} {g : Option (Nat × Bool)} {T : TypeId} {ps : List (Nat × Operand)} {zs l : List TV} (hN : Nat.blt d N = true) (he : zT T = zs) (hb : TB P env T ps zs l) (hz : cG P T = some (zT T)) (hp : (gK P T).isSome = true)
   (h : DR P w0 N ops objs K rest ((d, .agg l) :: env)) : DO P w0 N ops objs K ⟨some d, .build T ps.toArray, T0, pos, af, g⟩ rest env := ⟨fun hgr => .run _ _ _ _ _ rfl hN hgr (wA rfl hz hp (he ▸ hb)) h⟩
end
section
variable {P : Program} {w0 : World} {N : Nat} {Q : Exit -> Act -> World -> Prop} {env : Env} {objs objs' : aH} {o : Oper}
inductive Evs (env : Env) : List Operand -> List TV -> Prop
 | nil : Evs env [] []
 | cons (x : Operand) (xs : List Operand) (t : TV) (ts : List TV) (h : ev env x = some t) (hr : Evs env xs ts) : Evs env (x :: xs) (t :: ts)
theorem aen {w : World} {a : Act} {xs : List Operand} {l : List TV} (h : Evs env xs l) (hop : ∀ x ∈ xs, ∀ v, ev env x = some v -> Rep w objs v (a.eval x)) : l.length = xs.length /\ ∀ (i : Nat) (t : TV) (v : Value), l[i]? = some t -> (xs.map a.eval)[i]? = some v -> Rep w objs t v := by
 induction h with
 | nil => simp
 | cons x xs t ts h hr ih =>
   obtain ⟨h1, h2⟩ := ih (fun y hy => hop y (by simp [hy]))
   refine ⟨by simpa using h1, fun i u v hu hv => ?_⟩
   cases i with
   | zero => simp at hu hv; subst hu; subst hv; exact hop x (by simp) t h
   | succ i => exact h2 i u v (by simpa using hu) (by simpa using hv)
theorem yh {f : Nat} {xs : List Operand} {l : List TV} (ho : o.op = .makeFunc (.func f) #[] xs.toArray) (hx : Evs env xs l) : aU P w0 env objs o (.fn f l) := aL fun a w hw hop => by
 obtain ⟨h1, h2⟩ := aen (objs := objs) (w := w) (a := a) hx (fun x hx v hv => hop x (by simp [ho, Op.operands, hx]) v hv)
 refine ⟨.func (.func f) #[] (xs.map a.eval).toArray, ?_, .fn f l _ (by simpa using h1) (fun i t v ht hv => h2 i t v ht (by simpa using hv))⟩
 simp only [execOp, ho]
 refine cm ?_
 simp [Instr.makeFunc, Sem.run_pure, List.map_toArray]
inductive jN (objs : aH) : List TV -> List TV -> Prop
 | nil : jN objs [] []
 | cons (t t' : TV) (l l' : List TV) (h : bU objs t t') (hr : jN objs l l') : jN objs (t :: l) (t' :: l')
theorem aa7 {l l' : List TV} (h : jN objs l l') : l'.length = l.length /\ ∀ (i : Nat) (t t' : TV), l[i]? = some t -> l'[i]? = some t' -> bU objs t t' := by
 induction h with
 | nil => simp
 | cons t t' l l' h hr ih =>
   refine ⟨by simpa using ih.1, fun i u u' hu hu' => ?_⟩
   cases i with
   | zero => simp at hu hu'; subst hu; subst hu'; exact h
   | succ i => exact ih.2 i u u' (by simpa using hu) (by simpa using hu')
theorem x1 {f : Nat} {x : Operand} {xs : List Operand} {vs : Array Value} {ts : Array TypeId} (ho : o.op = .call { callee := .value x, args := xs.toArray, argTypes := ts }) (hc : ig P f = true) (a : Act) (w : World) (hx : a.eval x = .func (.func f) #[] vs) : (execOp a.eval o).run P w = .ok (.enter f ((xs.map a.eval).toArray ++ vs)) w := by
 simp only [execOp, ho, resolve, hx, Sem.run_bind, Sem.run_pure, Result.andThen_ok, Deferred.ofValue, invoke]
 simp [lQ hc, Sem.run_pure, Result.andThen_ok, List.map_toArray]
theorem aaH {G : World -> Prop} {f : Nat} {x : Operand} {xs : List Operand} {ts : Array TypeId} {l l' args : List TV} {r : Nat -> TV} (ho : o.op = .call { callee := .value x, args := xs.toArray, argTypes := ts }) (hx : ev env x = some (.fn f l)) (hc : ig P f = true) (hargs : ca env objs xs args) (hl : jN objs l l')
   (hct : Ct P G f (args ++ l') r) (hG : G w0) (hst : aB G) : aU P w0 env objs o (r w0.heap.size) := fun a w K Q hw hop hK => by
 obtain ⟨h1, h2⟩ := qJ hw (a := a) hargs (fun x hx v hv => hop x (by simp [ho, Op.operands, Call.operands, hx]) v hv)
 have hfn := hop x (by simp [ho, Op.operands, Call.operands]) _ hx
 generalize hv : a.eval x = v at hfn
 cases hfn with
 | fn f l vs g1 g2 =>
   obtain ⟨g3, g4⟩ := aa7 hl
   unfold Oper.wp
   rw [x1 ho hc a w hv]
   refine (hct w _ (Nat.lt_of_lt_of_le hw.pos hw.below.size) (hst.below _ _ hG hw.below) (by simp at h1; simp; omega) (fun i t v ht hv' => ?_)).mono ?_
   ·rw [List.length_map] at h1
    by_cases hi : i < args.length
    ·rw [List.getElem?_append_left hi] at ht
     rw [Array.getElem?_append_left (by simp; omega)] at hv'
     exact h2 i t v ht (by simpa using hv')
    ·rw [List.getElem?_append_right (by omega)] at ht
     rw [Array.getElem?_append_right (by simp; omega)] at hv'
     simp only [List.size_toArray, List.length_map] at hv'
     rw [h1] at hv'
     obtain ⟨t0, h5⟩ := du g3 ht
     exact wD hw (g4 _ _ _ h5 ht) (g2 _ _ _ h5 hv')
   ·rintro e w' ⟨v, rfl, hb, hr⟩
    have hk : ∀ b, b < w.heap.size -> w'.heap[b]? = w.heap[b]? := fun b hlt => hb.block b hlt
    have hbel : Below w0.heap.size w0 w' := hw.below.trans (hb.mono hw.below.size)
    exact hK v w' (Rep.ofOld (fun b ha => by obtain ⟨_, s, ob, hm⟩ := ha; exact df hw hm) (hr _ hw.below.size)) (hw.grow hbel hb.size hk) (kJ objs hb.size hk)
theorem yn {w : World} (hw : dv w0 objs w) {s b m : Nat} {rows : List (List TV)} (hm : (s, b, bj.row m rows) ∈ objs) {v : Value} (hr : Rep w objs (.ms s b 0 rows.length) v) (hp : de objs' objs) (hna : ¬ pj objs' b) : Rep w objs' (.sl w0.heap.size m rows) v := by
 obtain ⟨⟨hm0, hci⟩, hmm, hor⟩ := hw.obj s b _ hm
 rcases (mb hr).or m rows hm with ⟨_, _, hlen, rfl⟩ | ⟨hb0, q, c, e, k, rfl, hlc, hsh, hk, ho⟩
 ·have : rows = [] := List.eq_nil_of_length_eq_zero hlen
  subst this
  exact .sl _ m [] none 0 (Nat.le_refl _) (by simp) (by simp) (by simp) (fun _ => undef) (by simp) (by simp)
 ·rcases hor with ⟨h0, _⟩ | ⟨hB, cur, e', cap, h3, h4, h5, h6, h7⟩
  ·exact absurd h0 hb0
  have hcm : c <= maxLen := by
    have h8 : w.shape? b = some (e', cur.size) := by unfold World.shape?; rw [h3]
    rw [h8] at hsh
    simp only [Option.some.injEq, Prod.mk.injEq] at hsh
    have h9 : cap * m = (0 + c) * m := by omega
    have := Nat.eq_of_mul_eq_mul_right hm0 h9
    omega
  have hq : q = 0 := by simpa using ho (.inr rfl)
  subst hq
  have key : ∀ j, ∃ u, ∀ t', rows.flatten[j]? = some t' -> w.cell? ⟨b, 0 + j, none⟩ = some u /\ Rep w objs' t' u := fun j => by
    cases hj : rows.flatten[j]? with
    | none => exact ⟨undef, fun t' ht => by cases ht⟩
    | some t =>
      obtain ⟨u, p1, p2⟩ := h7 _ t hj
      exact ⟨u, fun t' ht => by cases ht; exact ⟨by rw [cell_of_row w b _ cur e' (0, 0) h3, Nat.zero_add]; exact p1, p2.step (gS hp w)⟩⟩
  exact .sl _ m rows (some ⟨b, 0, none⟩) c hlc hcm hmm hci (fun j => Classical.choose (key j)) (fun j t hj => ⟨b, 0, rfl, ⟨hB, hna⟩, (Classical.choose_spec (key j) t hj).1⟩) (fun j t hj => (Classical.choose_spec (key j) t hj).2)
theorem Sim.freeze {a : Act} {w : World} (hs : Sim w0 N env objs a w) {t s b m n : Nat} {rows : List (List TV)} (hx : lk t env = some (.ms s b 0 n)) (hn : rows.length = n) (hd : zr s b (.row m rows) objs objs') : Sim w0 N ((t, .sl w0.heap.size m rows) :: env) objs' a w := by
 subst hn
 have hdel : de ((s, b, .row m rows) :: objs') objs := .perm hd.del.perm
 have hp : de objs' objs := (de.drop (.refl _)).trans hdel
 have hmem : (s, b, bj.row m rows) ∈ objs := hdel.mem _ List.mem_cons_self
 have hpw := hdel.sites hs.mem.sites
 have hna : ¬ pj objs' b := fun ha => by
   obtain ⟨h0, s', o', hm'⟩ := ha
   have := (List.pairwise_cons.1 hpw).1 _ hm'
   rcases this.2 with h | h
   ·exact h rfl
   ·exact h0 h
 have hs' := hs.pick hp
 refine ⟨hs'.defers, hs'.size, hs'.mem, fun t' v hv => ?_⟩
 rw [bV] at hv
 split at hv
 ·rename_i he
  subst he
  cases hv
  exact yn hs.mem hmem (hs.env t _ hx) hp hna
 ·exact hs'.env t' v hv
theorem abr {x : Exit} {t s b m n : Nat} {rows : List (List TV)} (hx : lk t env = some (.ms s b 0 n)) (hn : rows.length = n) (hd : zr s b (.row m rows) objs objs') (h : AQ w0 N Q x ((t, .sl w0.heap.size m rows) :: env) objs') : AQ w0 N Q x env objs := ⟨fun a w hs => h.run a w (hs.freeze hx hn hd)⟩
theorem nf {c : Code} {t s b m n : Nat} {rows : List (List TV)} (hx : lk t env = some (.ms s b 0 n)) (hn : rows.length = n) (hd : zr s b (.row m rows) objs objs') (h : AW P w0 N c Q ((t, .sl w0.heap.size m rows) :: env) objs') : AW P w0 N c Q env objs := ⟨fun a w hs => h.run a w (hs.freeze hx hn hd)⟩
theorem cw {m n : Nat} (h : n <= m) : ((m : Int) - (n : Int)) = ((m - n : Nat) : Int) := by omega
theorem mq {T : TypeId} {x hi : Operand} {f m : Nat} {rows : List (List TV)} {k1 : IntKind} {n : Int} {j : Nat} (ho : o.op = .slice T x none (some hi) none) (hx : ev env x = some (.sl f m rows)) (hhi : ev env hi = some (.int k1 n))
   (hT : P.underlying T = some (.slice (P.elem T))) (hI : (P.info? (P.elem T)).isSome = true) (hn : n = (j : Int)) (hj : j <= rows.length) : aU P w0 env objs o (.sl f m (rows.take j)) := aL fun a w hw hop => by
 have h0 := hop x (ff ho) _ hx
 have h1 := (hop hi (by simp [ho, Op.operands]) _ hhi).int_inv
 generalize hv : a.eval x = v at h0
 obtain ⟨A, c, rfl, g1, g2, g3, g4, g5⟩ := iC h0
 have hlen : (rows.take j).length = j := by simp; omega
 cases hie : P.info? (P.elem T) with
 | none => rw [hie] at hI; cases hI
 | some ie =>
 have hfl : ∀ (q : Nat) (t : TV), (rows.take j).flatten[q]? = some t -> rows.flatten[q]? = some t := fun q t hq => by
   rw [cr g3, List.getElem?_take] at hq
   split at hq
   ·exact hq
   ·cases hq
 have key : ∀ q, ∃ u, ∀ t, (rows.take j).flatten[q]? = some t -> (∃ b o, A = some ⟨b, o, none⟩ /\ ZZ objs f b /\ w.cell? ⟨b, o + q, none⟩ = some u) /\ Rep w objs t u := fun q => by
   cases hq : (rows.take j).flatten[q]? with
   | none => exact ⟨undef, fun t ht => by cases ht⟩
   | some t =>
     obtain ⟨b, o, u, p1, p2, p3, p4⟩ := g5 q t (hfl q t hq)
     exact ⟨u, fun t' ht => by cases ht; exact ⟨⟨b, o, p1, p2, p3⟩, p4⟩⟩
 have hr := Rep.sl (w := w) (objs := objs) f m (rows.take j) A c (by omega) g2 (fun r hr => g3 r (List.mem_of_mem_take hr)) (fun t ht => by
     obtain ⟨r, h2, h3⟩ := List.mem_flatten.1 ht
     exact g4 t (List.mem_flatten.2 ⟨r, List.mem_of_mem_take h2, h3⟩)) (fun q => Classical.choose (key q)) (fun q t hq => ((Classical.choose_spec (key q)) t hq).1) (fun q t hq => ((Classical.choose_spec (key q)) t hq).2)
 rw [hlen] at hr
 refine ⟨.slice A j c, ?_, hr⟩
 simp only [execOp, ho, h1, hv, Option.map_some, Option.map_none]
 refine cm ?_
 rw [run_sliceAt_slice w T _ _ _ _ hT, run_slice_h w T _ rows.length c hT k1 n (by omega) (by omega), run_sizeOf w hie]
 subst hn
 cases A <;> simp [Result.andThen_ok, sliced, Addr.add]
theorem uh {T : TypeId} {x lo : Operand} {f m : Nat} {rows : List (List TV)} {k1 : IntKind} {n : Int} {j : Nat} (ho : o.op = .slice T x (some lo) none none) (hx : ev env x = some (.sl f m rows)) (hlo : ev env lo = some (.int k1 n))
   (hT : P.underlying T = some (.slice (P.elem T))) (hI : (P.info? (P.elem T)).isSome = true) (hm : P.cellsOf (P.elem T) = m) (hn : n = (j : Int)) (hj : j <= rows.length) : aU P w0 env objs o (.sl f m (rows.drop j)) := aL fun a w hw hop => by
 have h0 := hop x (ff ho) _ hx
 have h1 := (hop lo (by simp [ho, Op.operands]) _ hlo).int_inv
 generalize hv : a.eval x = v at h0
 obtain ⟨A, c, rfl, g1, g2, g3, g4, g5⟩ := iC h0
 have hlen : (rows.drop j).length = rows.length - j := by simp
 cases hie : P.info? (P.elem T) with
 | none => rw [hie] at hI; cases hI
 | some ie =>
 have hfl : ∀ (q : Nat) (t : TV), (rows.drop j).flatten[q]? = some t -> rows.flatten[j * m + q]? = some t := fun q t hq => by
   rw [eT g3, List.getElem?_drop] at hq
   exact hq
 have key : ∀ q, ∃ u, ∀ t, (rows.drop j).flatten[q]? = some t -> (∃ b o, (if c = j then A else A.map (·.add (j * m))) = some ⟨b, o, none⟩ /\ ZZ objs f b /\ w.cell? ⟨b, o + q, none⟩ = some u) /\ Rep w objs t u := fun q => by
   cases hq : (rows.drop j).flatten[q]? with
   | none => exact ⟨undef, fun t ht => by cases ht⟩
   | some t =>
     obtain ⟨b, o, u, p1, p2, p3, p4⟩ := g5 _ t (hfl q t hq)
     refine ⟨u, fun t' ht => by
       cases ht
       refine ⟨⟨b, o + j * m, ?_, p2, by rw [Nat.add_assoc]; exact p3⟩, p4⟩
       have hcj : c ≠ j := fun hc => by
         rw [List.drop_of_length_le (by omega)] at hq
         simp at hq
       rw [if_neg hcj, p1]
       simp [Addr.add_lit]⟩
 have hr := Rep.sl (w := w) (objs := objs) f m (rows.drop j) (if c = j then A else A.map (·.add (j * m))) (c - j) (by omega) (by omega) (fun r hr => g3 r (List.mem_of_mem_drop hr)) (fun t ht => by
     obtain ⟨r, h2, h3⟩ := List.mem_flatten.1 ht
     exact g4 t (List.mem_flatten.2 ⟨r, List.mem_of_mem_drop h2, h3⟩)) (fun q => Classical.choose (key q)) (fun q t hq => ((Classical.choose_spec (key q)) t hq).1) (fun q t hq => ((Classical.choose_spec (key q)) t hq).2)
 rw [hlen] at hr
 refine ⟨_, ?_, hr⟩
 simp only [execOp, ho, h1, hv, Option.map_some, Option.map_none]
 refine cm ?_
 rw [run_sliceAt_slice w T _ _ _ _ hT, run_slice_l w T _ rows.length c hT k1 n (by omega) (by omega), run_sizeOf w hie, hm]
 subst hn
 simp [Result.andThen_ok, sliced]
variable {ops : Array Oper} {rest : List Oper} {d T0 : Nat} {pos : String} {af : Array Edge} {g : Option (Nat × Bool)} {K : Env -> Prop}
theorem yY {f : Nat} {xs : List Operand} {l : List TV} (hN : Nat.blt d N = true) (hx : Evs env xs l) (h : AL P w0 N ops Q rest ((d, .fn f l) :: env) objs) : AO P w0 N ops Q ⟨some d, .makeFunc (.func f) #[] xs.toArray, T0, pos, af, g⟩ rest env objs := uI rfl hN (yh rfl hx) h
theorem uU {G : World -> Prop} {t f : Nat} {xs : List Operand} {ts : Array TypeId} {l l' args all : List TV} {r : Nat -> TV} (hN : Nat.blt d N = true) (hx : lk t env = some (.fn f l)) (hc : ig P f = true) (hG : G w0) (hst : aB G) (hargs : ca env objs xs args) (hl : jN objs l l') (ha : args ++ l' = all) (hct : Ct P G f all r)
   (h : AL P w0 N ops Q rest ((d, r w0.heap.size) :: env) objs) : AO P w0 N ops Q ⟨some d, .call { callee := .value (.tmp t), args := xs.toArray, argTypes := ts }, T0, pos, af, g⟩ rest env objs := uI rfl hN (aaH (x := .tmp t) rfl hx hc hargs hl (ha ▸ hct) hG hst) h
theorem adV {G : World -> Prop} {t f : Nat} {xs : List Operand} {ts : Array TypeId} {l l' args all : List TV} {r : Nat -> TV} (hN : Nat.blt d N = true) (hx : lk t env = some (.fn f l)) (hc : ig P f = true) (hG : G w0) (hst : aB G) (hargs : ca env objs xs args) (hl : jN objs l l') (ha : args ++ l' = all) (hct : Ct P G f all r)
   (h : DR P w0 N ops objs K rest ((d, r w0.heap.size) :: env)) : DO P w0 N ops objs K ⟨some d, .call { callee := .value (.tmp t), args := xs.toArray, argTypes := ts }, T0, pos, af, g⟩ rest env := ⟨fun hgr => .run _ _ _ _ _ rfl hN hgr (aaH (x := .tmp t) rfl hx hc hargs hl (ha ▸ hct) hG hst) h⟩
theorem sP {T : TypeId} {x hi : Operand} {f m : Nat} {rows rows2 : List (List TV)} {k1 : IntKind} {n : Int} {j : Nat} (hN : Nat.blt d N = true) (hx : ev env x = some (.sl f m rows)) (hhi : ev env hi = some (.int k1 n)) (hT : P.underlying T = some (.slice (P.elem T))) (hI : (P.info? (P.elem T)).isSome = true) (hn : n = (j : Int)) (hj : j <= rows.length) (he : rows.take j = rows2) (h : AL P w0 N ops Q rest ((d, .sl f m rows2) :: env) objs) : AO P w0 N ops Q ⟨some d, .slice T x none (some hi) none, T0, pos, af, g⟩ rest env objs := uI rfl hN (he ▸ mq rfl hx hhi hT hI hn hj) h
theorem tM {T : TypeId} {x hi : Operand} {f m : Nat} {rows rows2 : List (List TV)} {k1 : IntKind} {n : Int} {j : Nat} (hN : Nat.blt d N = true) (hx : ev env x = some (.sl f m rows)) (hhi : ev env hi = some (.int k1 n)) (hT : P.underlying T = some (.slice (P.elem T))) (hI : (P.info? (P.elem T)).isSome = true) (hn : n = (j : Int)) (hj : j <= rows.length) (he : rows.take j = rows2) (h : DR P w0 N ops objs K rest ((d, .sl f m rows2) :: env)) : DO P w0 N ops objs K ⟨some d, .slice T x none (some hi) none, T0, pos, af, g⟩ rest env := ⟨fun hgr => .run _ _ _ _ _ rfl hN hgr (he ▸ mq rfl hx hhi hT hI hn hj) h⟩
theorem uw {T : TypeId} {x lo : Operand} {f m : Nat} {rows rows2 : List (List TV)} {k1 : IntKind} {n : Int} {j : Nat} (hN : Nat.blt d N = true) (hx : ev env x = some (.sl f m rows)) (hlo : ev env lo = some (.int k1 n)) (hT : P.underlying T = some (.slice (P.elem T))) (hI : (P.info? (P.elem T)).isSome = true) (hm : P.cellsOf (P.elem T) = m) (hn : n = (j : Int)) (hj : j <= rows.length) (he : rows.drop j = rows2) (h : AL P w0 N ops Q rest ((d, .sl f m rows2) :: env) objs) : AO P w0 N ops Q ⟨some d, .slice T x (some lo) none none, T0, pos, af, g⟩ rest env objs := uI rfl hN (he ▸ uh rfl hx hlo hT hI hm hn hj) h
end
inductive DU (P : Program) (w0 : World) (N : Nat) (K : Env -> Prop) : List Oper -> Env -> Prop
 | nil (env : Env) (h : K env) : DU P w0 N K [] env
 | run (o : Oper) (rest : List Oper) (env : Env) (d : Nat) (tv : TV) (hd : o.dst = some d) (hN : Nat.blt d N = true) (hg : o.guard = none) (hy : ∀ objs, aU P w0 env objs o tv) (h : DU P w0 N K rest ((d, tv) :: env)) : DU P w0 N K (o :: rest) env
section
variable {P : Program} {w0 : World} {N : Nat} {Q : Exit -> Act -> World -> Prop} {objs : aH} {ops : Array Oper} {env : Env}
theorem abG {K : Env -> Prop} {l : List Oper} {env : Env} (h : DU P w0 N K l env) : ∃ σ : Nat -> Env, (∀ t, lk t (σ 0) = lk t env) /\ K (σ l.length) /\ ∀ k o, l[k]? = some o -> ∀ objs, mg P w0 N ops objs o (σ k) (σ (k + 1)) := by
 induction h with
 | nil env h => exact ⟨fun _ => env, fun _ => rfl, h, by simp⟩
 | run o rest env d tv hd hN hg hy h ih =>
   obtain ⟨σ, h1, h2, h3⟩ := ih
   refine ⟨fun k => match k with | 0 => env | k + 1 => σ k, fun _ => rfl, h2, fun k o' hk objs => ?_⟩
   cases k with
   | zero => simp at hk; subst hk; exact ⟨d, tv, hd, Nat.blt_eq ▸ hN, h1, .inl ⟨.inl hg, hy objs⟩⟩
   | succ k => exact h3 k o' (by simpa using hk) objs
theorem wq {o : Oper} {T : TypeId} {zs : List TV} (ho : o.op = .alloc T) (hz : cG P T = some zs) : aU P w0 env objs o .top := fun a w K Q hw hop hK => by
 obtain ⟨ss, hf⟩ := e9 objs
 obtain ⟨z, h1, h2, h3⟩ := la hz w
 have hrun : (execOp a.eval o).run P w = .ok (.value (.pointer (some ⟨w.heap.size, 0, none⟩))) (w.alloc (.cells z.cells T)) := by
   simp only [execOp, ho]
   refine cm ?_
   simp [Instr.alloc, Sem.run_bind, h1, newVar, newRow, run_newObj_alloc, Sem.run_pure]
 unfold Oper.wp
 rw [hrun]
 obtain ⟨g1, g2⟩ := hw.alloc (.cells z.cells T)
 exact hK _ _ (.top _) g1 g2
theorem xS {o : Oper} {T : TypeId} {zs : List TV} (ho : o.op = .alloc T) (hz : cG P T = some zs) {a : Act} {w : World} (hw : dv w0 objs w) {K : Act -> World -> Prop} (hK : ∀ ss b v w', Rep w' ((ss, b, .box zs) :: objs) (.mp ss b 0) v -> dv w0 ((ss, b, .box zs) :: objs) w' -> lb w objs w' ((ss, b, .box zs) :: objs) -> K (a.put o.dst v) w') : o.wp P a w K Q := by
 obtain ⟨ss, hf⟩ := e9 objs
 obtain ⟨z, h1, h2, h3⟩ := la hz w
 have hst := gE hw z.cells T ss (.box zs)
 have hrun : (execOp a.eval o).run P w = .ok (.value (.pointer (some ⟨w.heap.size, 0, none⟩))) (w.alloc (.cells z.cells T)) := by
   simp only [execOp, ho]
   refine cm ?_
   simp [Instr.alloc, Sem.run_bind, h1, newVar, newRow, run_newObj_alloc, Sem.run_pure]
 unfold Oper.wp
 rw [hrun]
 refine hK ss w.heap.size _ _ (.mp ss _ 0 ⟨by simp, fX hw #[] 0 ss _⟩) (hw.newObj hf ⟨⟨hw.below.size, h2.2⟩, z.cells, T, heap_alloc_new w _, h2.1, fun j t hj => ?_⟩) hst
 have hlt : j < z.cells.size := by rw [h2.1]; exact (List.getElem?_eq_some_iff.1 hj).1
 exact ⟨z.cells[j], by simp [hlt], h3 _ _ j t _ hj (by simp [hlt])⟩
def JZ (w0 : World) (N : Nat) (ops : Array Oper) (objs : aH) (σ : Nat -> Env) (k ia d : Nat) (zs : List TV) (X : Nat -> Prop) (a : Act) (w : World) : Prop :=
 (¬ X ia /\ JY w0 N ops objs σ k X a w) \/ (X ia /\ ∃ ss b, JY w0 N ops ((ss, b, .box zs) :: objs) σ k X a w /\ Rep w ((ss, b, .box zs) :: objs) (.mp ss b 0) (a.tmps.getD d undef))
theorem abR (hok : di ops = true) {k : Nat} (hk : k <= ops.size) (htl : fG ops k = true) {σ : Nat -> Env} {ia d : Nat} {zs : List TV} (hia : ia < k) (hQ : ∀ ss b, AL P w0 N ops Q (ops.toList.drop k) ((d, .mp ss b 0) :: σ k) ((ss, b, .box zs) :: objs)) {fuel : Nat} {listed : Array Bool} {a : Act} {w : World} (hsz : listed.size = ops.size) (hun : cO listed <= fuel) (hXk : ∀ i, listed.getD i false = true -> i < k)
   (hall : ∀ j, j < k -> listed.getD j false = true) (hJ : JZ w0 N ops objs σ k ia d zs (fun i => listed.getD i false = true) a w) : wpAny P .any ops Q fuel listed a w := by
 rcases hJ with ⟨hn, _⟩ | ⟨_, ss, b, hJ, hr⟩
 ·exact absurd (hall ia hia) hn
 ·refine oA (σ := fun c => if c = k then (d, .mp ss b 0) :: σ k else σ c) hok hk htl (by rw [if_pos rfl]; exact hQ ss b) hsz hun hXk hall ⟨hJ.defers, hJ.size, hJ.mem, fun t c hc h1 h2 v hv => ?_⟩
  split at hv
  ·rename_i hck
   subst hck
   rw [bV] at hv
   split at hv
   ·rename_i hdt
    subst hdt
    cases hv
    exact hr
   ·exact hJ.cut t c hc h1 h2 v hv
  ·exact hJ.cut t c hc h1 h2 v hv
theorem yE (hok : di ops = true) {k : Nat} (hk : k <= ops.size) (htl : fG ops k = true) {σ : Nat -> Env} {ia d : Nat} {T : TypeId} {zs : List TV} {oa : Oper} (hia : ia < k) (hoa : ops[ia]? = some oa) (hop : oa.op = .alloc T) (hda : oa.dst = some d) (hdN : d < N) (hz : cG P T = some zs) (hga : oa.guard = none)
   (hother : ∀ j o, j < k -> ops[j]? = some o -> j ≠ ia -> o.dst ≠ some d) (hσ : ∀ i o, i < k -> ops[i]? = some o -> ∀ objs, mg P w0 N ops objs o (σ i) (σ (i + 1))) (hσa : ∀ t, lk t (σ (ia + 1)) = lk t ((d, .top) :: σ ia)) (hQ : ∀ ss b, AL P w0 N ops Q (ops.toList.drop k) ((d, .mp ss b 0) :: σ k) ((ss, b, .box zs) :: objs)) :
   ∀ (fuel : Nat) (listed : Array Bool) (a : Act) (w : World), listed.size = ops.size -> cO listed <= fuel -> (∀ i, listed.getD i false = true -> i < k) -> d9 ops (fun i => listed.getD i false = true) -> JZ w0 N ops objs σ k ia d zs (fun i => listed.getD i false = true) a w -> wpAny P .any ops Q fuel listed a w :=
 vv hok hk htl (JZ w0 N ops objs σ k ia d zs) (fun _ _ _ _ hsz hun hXk hall hJ => abR hok hk htl hia hQ hsz hun hXk hall hJ) fun X a w i o hX hXk ho hik hni hX' hJ K hnext => by
   have hC := xO (fun i o h1 h2 => hσ i o h1 h2 objs)
   rcases hJ with ⟨hn, hJ⟩ | ⟨hy, ss, b, hJ, hrep⟩
   ·by_cases hii : i = ia
    ·subst hii
     rw [hoa] at ho
     cases ho
     unfold wpOp
     rw [hoa]
     have hw : Region.wanted oa (yielded ops a.tmps) = true := by simp [Region.wanted, hga]
     simp only [hw, if_true]
     refine .inl (xS hop hz hJ.mem fun ss b v w' hr hsw hst => ?_)
     rw [hda]
     refine hnext _ _ (.inr ⟨.inl rfl, ss, b, km hok hk hJ hX hoa hik hni hda hdN hC hσa (.top v) hsw hst, ?_⟩)
     show Rep w' _ _ ((a.tmps.setIfInBounds d v).getD d undef)
     rw [kg (by rw [hJ.size]; exact hdN), if_pos rfl]
     exact hr
    ·refine aaD hok hk hJ hX hXk ho hik hni hX' hC (hσ i o hik ho objs) fun d' v w' _ _ hst hJ' => hnext _ _ (.inl ⟨fun h => ?_, hJ'⟩)
     rcases h with h | h
     ·exact hii h.symm
     ·exact hn h
   ·have hii : i ≠ ia := fun h => hni (h ▸ hy)
    refine aaD hok hk hJ hX hXk ho hik hni hX' hC (hσ i o hik ho _) fun d' v w' hd' hd'N hst hJ' => hnext _ _ (.inr ⟨.inr hy, ss, b, hJ', ?_⟩)
    show Rep w' _ _ ((a.tmps.setIfInBounds d' v).getD d undef)
    rw [kg (by rw [hJ.size]; exact hd'N), if_neg (fun h => hother i o hik ho hii (by rw [hd', h]))]
    exact hrep.step hst
theorem i7 (k : Nat) {id d : Nat} {l l1 l2 : List Oper} {oa : Oper} {T : TypeId} {zs : List TV} {env : Env} (hm : P.follows .mixedOrders = true) (hok : di l.toArray = true) (htl : fG l.toArray (k + 1) = true) (hc : Cut k l l1 (oa :: l2)) (hop : oa.op = .alloc T) (hda : oa.dst = some d) (hga : oa.guard = none) (hdN : Nat.blt d N = true) (he : zT T = zs) (hz : cG P T = some zs)
   (hno : (l1.all fun o => !(o.dst == some d)) = true) (h : DU P w0 N (fun env' => ∀ ss b, AL P w0 N l.toArray Q l2 ((d, .mp ss b 0) :: env') ((ss, b, .box zs) :: objs)) l1 env) : AW P w0 N (.region id l.toArray true) Q env objs := ⟨fun a w hs => by
 obtain ⟨e1, e2, hkl⟩ := hc.eq
 have hkl2 : k < l.length := Nat.lt_of_not_le fun hge => by rw [List.drop_of_length_le hge] at e2; cases e2
 have hd2 : l.drop (k + 1) = l2 := by
   rw [List.drop_eq_getElem_cons hkl2] at e2
   exact (List.cons.inj e2).2.symm
 have hoa : l[k]? = some oa := by
   rw [List.drop_eq_getElem_cons hkl2] at e2
   rw [List.getElem?_eq_getElem hkl2, (List.cons.inj e2).1]
 obtain ⟨σ0, h1, h2, h3⟩ := abG (ops := l.toArray) h
 have hl1 : l1.length = k := by rw [e1, List.length_take]; omega
 rw [hl1] at h2
 have hdN' : d < N := Nat.blt_eq ▸ hdN
 -- the chain, with the variable's slot unknown behind its making
 have hσ : ∃ σ : Nat -> Env, (∀ c, c <= k -> σ c = σ0 c) /\ σ (k + 1) = (d, .top) :: σ0 k := ⟨fun c => if c <= k then σ0 c else (d, .top) :: σ0 k, fun c hc => by simp [hc], if_neg (by omega)⟩
 obtain ⟨σ, hs1, hs2⟩ := hσ
 have hst : ∀ i o, i < k + 1 -> l[i]? = some o -> ∀ objs, mg P w0 N l.toArray objs o (σ i) (σ (i + 1)) := fun i o hi ho objs => by
   by_cases hik : i < k
   ·rw [hs1 i (by omega), hs1 (i + 1) (by omega)]
    exact h3 i o (by rw [e1, List.getElem?_take, if_pos hik]; exact ho) objs
   ·obtain rfl : i = k := by omega
    rw [hoa] at ho; cases ho
    rw [hs1 i (Nat.le_refl _), hs2]
    exact ⟨d, .top, hda, hdN', fun _ => rfl, .inl ⟨.inl hga, wq hop hz⟩⟩
 have hrep : ∀ i, (Array.replicate l.toArray.size false).getD i false = false := fun i => by
   rcases Nat.lt_or_ge i l.toArray.size with h | h
   ·simp at h; simp [h]
   ·simp at h; simp [Array.getD_eq_getD_getElem?, Array.getElem?_eq_none, h]
 refine wp_region_any hm (yE (objs := objs) hok (k := k + 1) (by simp; omega) htl (σ := σ) (ia := k) (d := d) (T := T) (zs := zs) (oa := oa) (Nat.lt_succ_self k) (by simpa using hoa) hop hda hdN' hz hga (fun j o hj ho hne hd => ?_) (fun i o hi ho => hst i o hi (by simpa using ho)) (fun t => by rw [hs2, hs1 k (Nat.le_refl _)]) (fun ss b => ?_) _ _ _ _ (by simp) (by simp [cO]) (fun i hi => by rw [hrep] at hi; cases hi) (fun j oj _ hx => nomatch (hrep j).symm.trans hx) (.inl ⟨(fun h => nomatch (hrep k).symm.trans h), hs.defers, hs.size, ?_, fun t c hc h4 h5 v hv => ?_⟩))
 ·have hmem : o ∈ l1 := by
    have : l1[j]? = some o := by rw [e1, List.getElem?_take, if_pos (by omega)]; simpa using ho
    exact List.mem_of_getElem? this
  have := List.all_eq_true.1 hno o hmem
  rw [hd] at this
  simp at this
 ·rw [hs2]
  have : (l.toArray.toList.drop (k + 1)) = l2 := by simpa using hd2
  rw [this]
  refine ⟨fun a w hs => (h2 ss b).run a w ⟨hs.defers, hs.size, hs.mem, fun t v hv => hs.env t v ?_⟩⟩
  rw [bV] at hv |-
  split
  ·rename_i hdt; rw [if_pos hdt] at hv; exact hv
  ·rename_i hdt
   rw [if_neg hdt] at hv
   rw [bV, if_neg hdt]; exact hv
 ·exact hs.mem.grow ⟨hs.mem.below.os, hs.mem.below.tape, hs.mem.below.output, hs.mem.below.size, hs.mem.below.block⟩ (Nat.le_refl _) (fun _ _ => rfl)
 ·have hk0 : ∀ m, m <= c -> lk t (σ m) = lk t (σ 0) := fun m => by
    induction m with
    | zero => intro _; rfl
    | succ m ih =>
      intro hm2
      have hml : m < l.length := by omega
      obtain ⟨d, tv, e1, _, e2, _⟩ := hst m l[m] (by omega) (List.getElem?_eq_getElem hml) objs
      rw [e2, bV, if_neg]
      ·exact ih (by omega)
      ·intro e
       have := h4 m (by omega) (by unfold fp; simp [hml, e1, e])
       rw [hrep] at this; cases this
  rw [hk0 c (Nat.le_refl _), hs1 0 (Nat.zero_le _), h1 t] at hv
  have hst : lb w objs { w with drawn := w.drawn + 1 } objs := ⟨fun _ _ _ => rfl, fun _ _ h => h, fun _ _ _ rows _ _ h => ⟨⟨rows, h⟩, rfl⟩, Nat.le_refl _, fun h => h⟩
  exact (hs.env t v hv).step hst⟩
variable {K : Env -> Prop} {rest : List Oper} {d T0 : Nat} {pos : String} {af : Array Edge}
theorem qk (h : K env) : DU P w0 N K [] env := .nil _ h
end
section
variable {P : Program} {w0 : World} {N : Nat} {Q : Exit -> Act -> World -> Prop} {objs objs' : aH} {ops : Array Oper} {env : Env} {o : Oper}
variable {rest : List Oper} {d T0 : Nat} {pos : String} {af : Array Edge} {g : Option (Nat × Bool)}
end
section
variable {P : Program} {w0 : World} {N : Nat} {Q : Exit -> Act -> World -> Prop} {objs objs' : aH} {ops : Array Oper} {env : Env} {o : Oper}
theorem hY {w : World} (t u ty e e' : TypeId) (i : TypeInfo) (ht : P.underlying t = some (.slice e)) (hu : P.underlying u = some .string) (hi : P.info? e = some i)
   (g q sLen sCap : Nat) (cur : Array Value) (hg : w.heap[g]? = some (.cells cur e' (0, 0))) (s : ByteArray)
   (hroom : sLen + s.size <= sCap) (hfit : q + sLen * i.size + (Lib.strCells s).length <= cur.size) :
   (Builtin.append_ #[t, u] ty #[.slice (some ⟨g, q, none⟩) sLen sCap, .string s]).run P w =
     .ok (.slice (some ⟨g, q, none⟩) (sLen + s.size) sCap) (w.setRow g (cur.toList.take (q + sLen * i.size) ++ Lib.strCells s ++ cur.toList.drop (q + sLen * i.size + (Lib.strCells s).length)).toArray) := by
 have hf := Lib.run_firstCells_string (P := P) w i.size s
 have hst := run_storeCells_at P g (q + sLen * i.size) e' (Lib.strCells s) 0 cur w hg (by simpa using hfit) (Lib.strCells_oneCell s)
 simp only [Nat.add_zero] at hst
 simp [Builtin.append_, run_underlying ht, run_underlying hu, sizeOf, typeInfo, hi, Builtin.lenOf, hroom, hf, Addr.add_lit, hst]
theorem yS {w : World} (hw : dv w0 objs w) {T U ty s b off len m : Nat} {rows : List (List TV)} {t : ByteArray} (hm1 : m = 1) (hmem : (s, b, bj.row m rows) ∈ objs) {v1 : Value} (h1 : Rep w objs (.ms s b off len) v1) (hU : P.underlying U = some .string)
   (hT : kZ P T m = true) (hl : off + len <= rows.length) (hbig : len + t.size <= 1000000000) :
   ∃ b' off' pre v' w', (Builtin.append_ #[T, U] ty #[v1, .string t]).run P w = .ok v' w' /\ wT w0 w objs s b off len m (jy t.data.toList).length rows (jy t.data.toList) b' off' pre v' w' := by
 obtain ⟨e, i, z, hu, hie, hz, hisz, hzs, hby⟩ := qa hT
 obtain ⟨⟨hm0, hci⟩, hm, hor⟩ := hw.obj s b _ hmem
 have ht : t.size = (jy t.data.toList).length := by rw [aO]; exact (aP t).symm
 have g3 : ∀ r ∈ jy t.data.toList, r.length = m := fun r hr => by
   rw [hm1]
   simp only [jy, List.mem_map] at hr
   obtain ⟨x, _, rfl⟩ := hr; rfl
 have g4 : ∀ u ∈ (jy t.data.toList).flatten, u.isCell = true := fun u hu => by
   rw [fM] at hu
   obtain ⟨x, _, rfl⟩ := List.mem_map.1 hu; rfl
 obtain ⟨nv, hnv⟩ : ∃ nv, nv = Lib.strCells t := ⟨_, rfl⟩
 have n2 := Lib.strCells_oneCell t
 have n1 : nv.length = (jy t.data.toList).length := by rw [hnv, Lib.strCells_length, ht]
 have n4 : ∀ (j : Nat) (u : TV), (jy t.data.toList).flatten[j]? = some u -> ∃ x, nv[j]? = some x /\ Rep w objs u x := fun j u hj => by
   rw [fM, List.getElem?_map] at hj
   rw [hnv, Lib.strCells, List.getElem?_map]
   cases hx : t.data.toList[j]? with
   | none => rw [hx] at hj; cases hj
   | some x => rw [hx] at hj; cases hj; exact ⟨_, rfl, .int _ _⟩
 rw [<- hnv] at n2
 generalize jy t.data.toList = news at ht g3 g4 n1 n4 |-
 have hms := (mb h1).or m rows hmem
 have hpos : 0 < w.heap.size := Nat.lt_of_lt_of_le hw.pos hw.below.size
 have hblt := (mb h1).1.1
 rw [ht] at hbig
 by_cases hn0 : news = []
 ·-- nothing is appended
  subst hn0
  refine ⟨b, off, rows.take off, v1, w, ?_, ?_⟩
  ·have hf := Lib.run_firstCells_string (P := P) w i.size t
   have hnv0 : nv = [] := List.eq_nil_of_length_eq_zero (by rw [n1]; rfl)
   rw [<- hnv, hnv0] at hf
   have ht0 : t.size = 0 := ht
   rw [ht0] at hf
   rcases hms with ⟨_, _, _, rfl⟩ | ⟨_, o, c, e', k, rfl, hlc, _⟩
   ·simp [Builtin.append_, run_underlying hu, run_underlying hU, sizeOf, typeInfo, hie, Builtin.lenOf, ht0, hf]
   ·simp [Builtin.append_, run_underlying hu, run_underlying hU, sizeOf, typeInfo, hie, Builtin.lenOf, ht0, hf, hlc, storeCells]
  ·refine ⟨by simp; omega, fun r hr => hm r (List.mem_of_mem_take hr), fun t ht => by
       obtain ⟨r, hr, htr⟩ := List.mem_flatten.1 ht
       exact hci t (List.mem_flatten.2 ⟨r, List.mem_of_mem_take hr, htr⟩), id, .inl rfl, hw.below, Nat.le_refl _, fun _ _ _ => rfl, fun _ _ => rfl, ?_, ?_, hblt⟩
   ·simpa using hms
   ·rw [List.append_nil, f6]
    rcases hor with ⟨h3, rfl⟩ | ⟨hB, cur, e', cap, h3, h4, h5, h6, h7⟩
    ·exact .inl ⟨h3, by simp⟩
    ·refine .inr ⟨hB, cur, e', cap, h3, h4, by simp; omega, h6, fun j t hj => h7 j t ?_⟩
     rw [cr hm, List.getElem?_take] at hj
     split at hj
     ·exact hj
     ·cases hj
 ·have hnpos : 0 < news.length := List.length_pos_iff.2 hn0
  have hfl := length_flatten g3
  have n1f : nv.length = news.length * m := by rw [n1, hm1, Nat.mul_one]
  have n1' : nv.length = news.length * i.size := by rw [n1f, hisz]
  clear n1
  have n1 := n1f
  -- what a new block holds
  have fresh : ∀ (old : Nat) (olds : List Value) (live : List (List TV)), live.length = len -> (∀ r ∈ live, r.length = m) -> olds.length = len * m -> (∀ (j : Nat) (t : TV), live.flatten[j]? = some t -> ∃ u, olds[j]? = some u /\ Rep w objs t u) -> live = (rows.drop off).take len ->
      wT w0 w objs s b off len m news.length rows news w.heap.size 0 [] (.slice (some ⟨w.heap.size, 0, none⟩) (len + news.length) (grownCap w (len + news.length) old e))
        (w.drew.alloc (.cells (olds.toArray ++ nv.toArray ++ Builtin.zeroCells z.cells (grownCap w (len + news.length) old e - (len + news.length))) e)) := by
    intro old olds live l1 l2 l3 l4 l5
    have hge := grownCap_ge w (len + news.length) old e
    have hcm : grownCap w (len + news.length) old e <= maxLen := grownCap_le_maxLen w (len + news.length) old e (by simp only [maxLen]; omega)
    have hkeep : ∀ k, k < w.heap.size -> ∀ ob, (w.drew.alloc ob).heap[k]? = w.heap[k]? := fun k hk ob => Below.heap_alloc w.drew ob k hk
    have hsize : (olds.toArray ++ nv.toArray ++ Builtin.zeroCells z.cells (grownCap w (len + news.length) old e - (len + news.length))).size = grownCap w (len + news.length) old e * m := by
      simp only [Array.size_append, List.size_toArray, size_zeroCells, hzs, l3, n1, <- Nat.add_mul]
      congr 1; omega
    have hb0 : w.heap.size ≠ 0 := by omega
    have hshp : (w.drew.alloc (.cells (olds.toArray ++ nv.toArray ++ Builtin.zeroCells z.cells (grownCap w (len + news.length) old e - (len + news.length))) e)).shape? w.heap.size = some (e, grownCap w (len + news.length) old e * m) := by
      unfold World.shape?
      rw [show (w.drew.alloc (.cells (olds.toArray ++ nv.toArray ++ Builtin.zeroCells z.cells (grownCap w (len + news.length) old e - (len + news.length))) e)).heap[w.heap.size]? = some (.cells _ e (0, 0)) from heap_alloc_new w.drew _]
      simp only [hsize]
    refine ⟨rfl, by simp, by simp, fun _ => rfl, .inr (Nat.le_refl _), hw.below.trans ⟨rfl, rfl, rfl, by simp, fun k hk => hkeep k (Nat.lt_of_lt_of_le hk hw.below.size) _⟩, by simp, fun k hk _ => hkeep k hk _, fun h _ => absurd (h ▸ hblt) (Nat.lt_irrefl _), .inr ⟨hb0, 0, _, e, _, rfl, hge, hshp, by rw [Nat.zero_add], fun _ => by simp⟩, .inr ⟨hw.below.size, _, e, _, heap_alloc_new w.drew _, hsize, ?_, hcm, fun j t hj => ?_⟩, by simp⟩
    ·rw [List.nil_append, <- l5, List.length_append, l1]; exact hge
    ·rw [List.nil_append, <- l5, List.flatten_append] at hj
     have hlf : live.flatten.length = len * m := by rw [length_flatten l2, l1]
     by_cases hjl : j < len * m
     ·rw [List.getElem?_append_left (by omega)] at hj
      obtain ⟨u, h5, h6⟩ := l4 j t hj
      exact ⟨u, by rw [Array.getElem?_append_left (by simp; omega), Array.getElem?_append_left (by simp; omega)]; simpa using h5, h6⟩
     ·rw [List.getElem?_append_right (by omega), hlf] at hj
      obtain ⟨u, h5, h6⟩ := n4 _ t hj
      have : j - len * m < nv.length := (List.getElem?_eq_some_iff.1 h5).1
      exact ⟨u, by rw [Array.getElem?_append_left (by simp; omega), Array.getElem?_append_right (by simp; omega)]; simpa [l3] using h5, h6⟩
  have hlive : ((rows.drop off).take len).length = len := by simp; omega
  have hlivem : ∀ r ∈ (rows.drop off).take len, r.length = m := fun r hr => hm r (List.mem_of_mem_drop (List.mem_of_mem_take hr))
  rcases hms with ⟨hb, hoff, hlen, rfl⟩ | ⟨hb0, o, c, e', k, rfl, hlc, hsh, hk, ho⟩
  ·-- onto nil
   subst hlen
   have hr := run_append_nil_string (P := P) w T U ty e i z hu hU hie hz t (by omega) (by omega) (by have : t.size * i.bytes <= 1000000000 * 4096 := Nat.mul_le_mul (by omega) hby; omega)
   have e1 : (t.data.map fun b => Value.int .u8 b.toNat) = nv.toArray := by
     rw [hnv]
     apply Array.ext'
     simp [Lib.strCells]
   rw [e1, ht] at hr
   have hf := fresh 0 [] ((rows.drop off).take 0) hlive hlivem (by simp) (by simp) rfl
   simp only [Nat.zero_add, Array.empty_append] at hf
   refine ⟨w.heap.size, 0, [], _, _, hr, ?_⟩
   simpa using hf
  ·rcases hor with ⟨h0, _⟩ | ⟨hB, cur, e'', cap, h3, h4, h5, h6, h7⟩
   ·exact absurd h0 hb0
   have hshape : (e'', cur.size) = (e', k) := by
     have : w.shape? b = some (e'', cur.size) := by unfold World.shape?; rw [h3]
     rw [this] at hsh; simpa using hsh
   have hkc : cur.size = (off + c) * m := by have := congrArg Prod.snd hshape; simp only at this; omega
   by_cases hroom : len + news.length <= c
   ·-- there is room
    have hoe := ho (.inl (by omega))
    subst hoe
    have hmul : (off + (len + news.length)) * m <= (off + c) * m := Nat.mul_le_mul_right _ (by omega)
    rw [Nat.add_mul, Nat.add_mul] at hmul
    have hfit : off * m + len * i.size + nv.length <= cur.size := by rw [hisz, n1, hkc]; omega
    have hr := hY (P := P) (w := w) T U ty e e'' i hu hU hie b (off * m) len c cur h3 t (by omega) (by rw [<- hnv]; exact hfit)
    rw [<- hnv, ht] at hr
    rw [hisz] at hr hfit
    have hnewsize : (cur.toList.take (off * m + len * m) ++ nv ++ cur.toList.drop (off * m + len * m + nv.length)).toArray.size = cur.size := by simp; omega
    refine ⟨b, off, rows.take off, _, _, hr, by simp; omega, fun r hr => hm r (List.mem_of_mem_take hr), fun t ht => by
      obtain ⟨r, hr, htr⟩ := List.mem_flatten.1 ht
      exact hci t (List.mem_flatten.2 ⟨r, List.mem_of_mem_take hr, htr⟩), id, .inl rfl, fJ hw.below hB _, by simp, fun k _ hk => setRow_other w b k _ (hk.resolve_right hb0), fun _ _ => ?_, .inr ⟨hb0, off * m, c, e'', cur.size, rfl, hroom, ?_, hkc, fun _ => rfl⟩, .inr ⟨hB, _, e'', cap, setRow_heap w b cur _ e'' _ h3, by rw [hnewsize]; exact h4, ?_, h6, fun j t hj => ?_⟩, by simpa using hblt⟩
    ·unfold World.shape?; rw [setRow_heap w b cur _ e'' _ h3, h3]; simp only [hnewsize]
    ·unfold World.shape?; rw [setRow_heap w b cur _ e'' _ h3]; simp only [hnewsize]
    ·have hcap : cap = off + c := by
       have : cap * m = (off + c) * m := by omega
       exact Nat.eq_of_mul_eq_mul_right hm0 this
     rw [<- List.append_assoc, f6]; simp; omega
    ·rw [<- List.append_assoc, f6, List.flatten_append, cr hm] at hj
     have hcur : ∀ i : Nat, cur.toList[i]? = cur[i]? := fun i => by simp
     have hlf : (rows.flatten.take ((off + len) * m)).length = off * m + len * m := by
       rw [List.length_take, length_flatten hm, <- Nat.add_mul]
       exact Nat.min_eq_left (Nat.mul_le_mul_right _ hl)
     simp only [List.getElem?_toArray]
     by_cases hjl : j < off * m + len * m
     ·rw [List.getElem?_append_left (by omega), List.getElem?_take, if_pos (by rw [Nat.add_mul]; exact hjl)] at hj
      obtain ⟨u, p1, p2⟩ := h7 j t hj
      exact ⟨u, by rw [List.getElem?_append_left (by simp; omega), List.getElem?_append_left (by simp; omega), List.getElem?_take, if_pos hjl, hcur]; exact p1, p2⟩
     ·rw [List.getElem?_append_right (by omega), hlf] at hj
      obtain ⟨u, p1, p2⟩ := n4 _ t hj
      have : j - (off * m + len * m) < nv.length := (List.getElem?_eq_some_iff.1 p1).1
      refine ⟨u, ?_, p2⟩
      rw [List.getElem?_append_left (by simp; omega), List.getElem?_append_right (by simp; omega)]
      simp only [List.length_take, Array.length_toList]
      rw [show min (off * m + len * m) cur.size = off * m + len * m by omega]; exact p1
   ·-- a new block
    have holds : ∃ olds : List Value, olds.length = len * m /\ (∀ (j : Nat) (u : Value), olds[j]? = some u -> w.cell? ((⟨b, o, none⟩ : Addr).add j) = some u) /\ ∀ (j : Nat) (t : TV), ((rows.drop off).take len).flatten[j]? = some t -> ∃ u, olds[j]? = some u /\ Rep w objs t u := by
      by_cases hlen : len = 0
      ·subst hlen; exact ⟨[], by simp, by simp, by simp⟩
      ·have hoe := ho (.inl (by omega))
       subst hoe
       obtain ⟨nv', m1, m2, _, m4⟩ := lv (w := w) (b := b) (q := off * m) (objs := objs) (l := ((rows.drop off).take len).flatten) (n := len * m) (by rw [length_flatten hlivem, hlive]) (fun t ht => by
           obtain ⟨r, hr, htr⟩ := List.mem_flatten.1 ht
           exact hci t (List.mem_flatten.2 ⟨r, List.mem_of_mem_drop (List.mem_of_mem_take hr), htr⟩)) (fun j t hj => by
           rw [cr (fun r hr => hm r (List.mem_of_mem_drop hr)), eT hm, List.getElem?_take] at hj
           split at hj
           ·rw [List.getElem?_drop] at hj
            obtain ⟨u, p1, p2⟩ := h7 _ t hj
            exact ⟨u, by rw [cell_of_row w b _ cur e'' (0, 0) h3]; exact p1, p2⟩
           ·cases hj)
       exact ⟨nv', m1, m2, m4⟩
    obtain ⟨olds, o1, o2, o3⟩ := holds
    have hr := Lib.run_append_grow_string (P := P) w T U ty e i z hu hU hie hz ⟨b, o, none⟩ len c olds (by rw [o1, hisz]) o2 t (by omega) (by omega) (growslice_fits (by omega) (by have : (len + t.size) * i.bytes <= 1000000000 * 4096 := Nat.mul_le_mul (by omega) hby; omega))
    rw [<- hnv, ht] at hr
    exact ⟨w.heap.size, 0, [], _, _, hr, fresh c olds _ hlive hlivem o1 o3 rfl⟩
theorem rV {x y : Operand} {T U : TypeId} {s : ByteArray} (ho : o.op = .call { callee := .builtin .append, args := #[x, y], argTypes := #[T, U] }) {a : Act} {w w' : World} {v : Value} (hy : a.eval y = .string s) (h : (Builtin.append_ #[T, U] o.type #[a.eval x, .string s]).run P w = .ok v w') :
   (execOp a.eval o).run P w = .ok (.value v) w' := by
 simp only [execOp, ho, resolve, Sem.run_bind, Sem.run_pure, Result.andThen_ok, invoke, builtin, List.map_toArray, List.map_cons, List.map_nil, hy]
 rw [h]; rfl
theorem uQ {objsOf : Nat -> aH} {ops : Array Oper} {rest : List Oper} {d T U s b len n : Nat} {x y : Operand} {t : ByteArray} {rows rows' : List (List TV)} (ho : o.op = .call { callee := .builtin .append, args := #[x, y], argTypes := #[T, U] }) (hd : o.dst = some d) (hN : Nat.blt d N = true)
   (hx : ev env x = some (.ms s b 0 len)) (hy : ev env y = some (.str t)) (hT : kZ P T 1 = true) (hU : P.underlying U = some .string) (hl : len <= rows.length) (hn : t.size = n) (hbig : len + n <= 1000000000) (hrows : rows.take len ++ jy t.data.toList = rows')
   (hu : ∀ b', Upd (s, b, .row 1 rows) (s, b', .row 1 rows') objs (objsOf b')) (h : ∀ b', AL P w0 N ops Q rest ((d, .ms s b' 0 (len + n)) :: env) (objsOf b')) : AO P w0 N ops Q o rest env objs := ⟨fun a w K hs hK => by
   subst hrows
   subst hn
   have hmem := (hu 0).mem
   obtain ⟨b', off', pre, v', w', hr, hE⟩ := yS (P := P) (U := U) (t := t) (ty := o.type) hs.mem rfl hmem (ei hs hx) hU hT (by omega) hbig
   have hpre : pre = [] := List.eq_nil_of_length_eq_zero (by rw [hE.prelen]; exact hE.zero rfl)
   have hoff : off' = 0 := hE.zero rfl
   subst hpre; subst hoff
   obtain ⟨⟨hm0, hci⟩, hm, _⟩ := hs.mem.obj s b _ hmem
   have hyv := (ei hs hy).str_inv
   have ht : t.size = (jy t.data.toList).length := by rw [aO]; exact (aP t).symm
   have g3 : ∀ r ∈ jy t.data.toList, r.length = 1 := fun r hr => by
     simp only [jy, List.mem_map] at hr
     obtain ⟨x, _, rfl⟩ := hr; rfl
   have g4 : ∀ u ∈ (jy t.data.toList).flatten, u.isCell = true := fun u hu => by
     rw [fM] at hu
     obtain ⟨x, _, rfl⟩ := List.mem_map.1 hu; rfl
   rw [<- ht] at hE
   unfold Oper.wp
   rw [rV ho hyv hr]
   refine hK _ _ ?_
   rw [hd]
   have hst := iY (m := 1) hs.mem (hu b') hE.size hE.keep hE.blk (fun rows' _ => ⟨rows, rfl⟩) (fun m' rows' he => by simp only [bj.row.injEq] at he; exact he.1.symm) hE.shape (by simp only [cY, ne_eq, Prod.mk.injEq, bj.row.injEq]; omega)
   have hobj := hE.obj
   simp only [List.nil_append, List.drop_zero] at hobj
   refine (h b').run _ _ (hs.putNew hN (.ms s b' _ _ _ (.mk ⟨hE.lt, fun hm' => hs.mem.noMark (hst.mark hm'), ?_⟩ (fun m' rows' hm' => ?_) (fun h0 => ?_))) (hs.mem.upd (hu b') hE.below hE.keep hE.blk hst ⟨⟨hm0, fun t ht => ?_⟩, fun r hr => ?_, hobj.imp id fun ⟨h1, cur, e, cap, h2, h3, h4, h5, h6⟩ => ⟨h1, cur, e, cap, h2, h3, h4, h5, fun j t hj => ?_⟩⟩) hst)
   ·rcases hE.val with ⟨_, _, h0, h1⟩ | ⟨_, q, c, e, k, h1, _⟩
    ·exact ⟨none, 0, by rw [h0]; exact h1⟩
    ·exact ⟨_, _, h1⟩
   ·rcases (hu b').other hs.mem.sites _ hm' with he | ⟨_, hne, _⟩
    ·simp only [Prod.mk.injEq, bj.row.injEq] at he
     obtain ⟨_, _, rfl, _⟩ := he
     exact hE.val
    ·exact absurd rfl hne
   ·rcases hE.val with ⟨_, h1, h2, h3⟩ | ⟨h1, _⟩
    ·exact ⟨h1, h2, h3⟩
    ·exact absurd h0 h1
   ·simp only [List.flatten_append, List.mem_append] at ht
    rcases ht with ht | ht
    ·obtain ⟨r, hr, htr⟩ := List.mem_flatten.1 ht
     exact hci t (List.mem_flatten.2 ⟨r, List.mem_of_mem_take hr, htr⟩)
    ·exact g4 t ht
   ·simp only [List.mem_append] at hr
    rcases hr with hr | hr
    ·exact hm r (List.mem_of_mem_take hr)
    ·exact g3 r hr
   ·obtain ⟨u, p1, p2⟩ := h6 j t hj
    exact ⟨u, p1, p2.step hst⟩⟩
theorem yL {rest : List Oper} {d T0 : Nat} {pos : String} {af : Array Edge} {g : Option (Nat × Bool)} {objsOf : Nat -> aH} {T U s b len n : Nat} {x y : Operand} {t : ByteArray} {l : List UInt8} (hN : Nat.blt d N = true) (hx : ev env x = some (.ms s b 0 len)) (hy : ev env y = some (.str t)) (hT : kZ P T 1 = true) (hU : P.underlying U = some .string) (hm : (s, b, bj.row 1 (jy l)) ∈ objs) (hl : l.length = len) (hn : t.size = n) (hbig : len + n <= 1000000000) (hu : ∀ b2, Upd (s, b, .row 1 (jy l)) (s, b2, .row 1 (jy (l ++ t.data.toList))) objs (objsOf b2)) (h : ∀ b2, AL P w0 N ops Q rest ((d, .ms s b2 0 (len + n)) :: env) (objsOf b2)) : AO P w0 N ops Q ⟨some d, .call { callee := .builtin .append, args := #[x, y], argTypes := #[T, U] }, T0, pos, af, g⟩ rest env objs := by
 have hll := aO l
 exact uQ (rows := jy l) rfl rfl hN hx hy hT hU (by omega) hn hbig (by rw [List.take_of_length_le (by omega)]; simp [jy]) hu h
end
section
variable {P : Program} {w0 : World} {N : Nat} {Q : Exit -> Act -> World -> Prop} {env : Env} {objs objs' : aH}
theorem abd (w : World) (s b ss m : Nat) (c c' : List TV) (hm : 0 < m) : lb w ((s, b, .box c) :: objs) w ((s, b, .box c') :: (ss, 0, .row m []) :: objs) :=
 ⟨fun _ _ _ => rfl, fun b' _ ha => ⟨ha.1, by
   obtain ⟨h0, s', o, hm⟩ := ha
   rcases List.mem_cons.1 hm with he | hm
   ·simp only [Prod.mk.injEq] at he
    obtain ⟨rfl, rfl, _⟩ := he
    exact ⟨_, _, List.mem_cons_self⟩
   ·rcases List.mem_cons.1 hm with he | hm
    ·simp only [Prod.mk.injEq] at he; omega
    ·exact ⟨s', o, List.mem_cons_of_mem _ hm⟩⟩, fun s' b' m' rows _ hb hm' => by
   rcases List.mem_cons.1 hm' with he | hm'
   ·simp only [Prod.mk.injEq] at he
    cases he.2.2
   ·rcases List.mem_cons.1 hm' with he | hm'
    ·simp only [Prod.mk.injEq] at he; omega
    ·exact ⟨⟨rows, List.mem_cons_of_mem _ hm'⟩, rfl⟩, Nat.le_refl _, fun hk => by
   rcases List.mem_cons.1 hk with he | hk
   ·simp only [cY, Prod.mk.injEq] at he
    cases he.2.2
   ·rcases List.mem_cons.1 hk with he | hk
    ·simp only [cY, Prod.mk.injEq, bj.row.injEq] at he; omega
    ·exact List.mem_cons_of_mem _ hk⟩
theorem Sim.nilC {a : Act} {w : World} {s b : Nat} {cells : List TV} (h : Sim w0 N env ((s, b, .box cells) :: objs) a w) (i m : Nat) (hm : 0 < m) (hi : cells[i]? = some .nils) : ∃ ss, Sim w0 N env ((s, b, .box (cells.set i (.ms ss 0 0 0))) :: (ss, 0, .row m []) :: objs) a w := by
 obtain ⟨ss, hss⟩ := e9 ((s, b, .box cells) :: objs)
 have hpos : 0 < w.heap.size := Nat.lt_of_lt_of_le h.mem.pos h.mem.below.size
 have hst : lb w ((s, b, .box cells) :: objs) w ((s, b, .box (cells.set i (.ms ss 0 0 0))) :: (ss, 0, .row m []) :: objs) := abd w s b ss m _ _ hm
 have hnm : cY ∉ (s, b, bj.box (cells.set i (.ms ss 0 0 0))) :: (ss, 0, .row m []) :: objs := fun hk => h.mem.noMark (hst.mark hk)
 have hil : i < cells.length := (List.getElem?_eq_some_iff.1 hi).1
 refine ⟨ss, h.defers, h.size, ⟨h.mem.below, h.mem.pos, fun s' b' o hm' => ?_, ?_⟩, fun t v hv => (h.env t v hv).step hst⟩
 ·rcases List.mem_cons.1 hm' with he | hm'
  ·simp only [Prod.mk.injEq] at he
   obtain ⟨rfl, rfl, rfl⟩ := he
   obtain ⟨⟨g1, g2⟩, cur, e, g3, g4, g5⟩ := h.mem.obj _ _ _ (List.mem_cons_self (l := objs))
   refine ⟨⟨g1, fun t ht => ?_⟩, cur, e, g3, by rw [List.length_set]; exact g4, fun j t hj => ?_⟩
   ·rcases List.mem_or_eq_of_mem_set ht with ht | rfl
    ·exact g2 t ht
    ·rfl
   ·rw [List.getElem?_set] at hj
    split at hj
    ·rename_i e1
     subst e1
     try rw [if_pos hil] at hj
     cases hj
     obtain ⟨v, g6, g7⟩ := g5 i _ hi
     refine ⟨v, g6, ?_⟩
     cases g7
     exact .ms ss 0 0 0 _ (.mk ⟨hpos, hnm, none, 0, rfl⟩ (fun _ _ _ => .inl ⟨rfl, rfl, rfl, rfl⟩) fun _ => ⟨rfl, rfl, rfl⟩)
    ·obtain ⟨v, g6, g7⟩ := g5 j t hj
     exact ⟨v, g6, g7.step hst⟩
  ·rcases List.mem_cons.1 hm' with he | hm'
   ·simp only [Prod.mk.injEq] at he
    obtain ⟨rfl, rfl, rfl⟩ := he
    exact ⟨⟨hm, by simp⟩, by simp, .inl ⟨rfl, rfl⟩⟩
   ·exact (h.mem.obj s' b' o (List.mem_cons_of_mem _ hm')).step hst rfl
 ·obtain ⟨p1, p2⟩ := List.pairwise_cons.1 h.mem.sites
  refine List.pairwise_cons.2 ⟨fun y hy => ?_, List.pairwise_cons.2 ⟨fun y hy => ⟨(hss y (List.mem_cons_of_mem _ hy)).symm, .inr rfl⟩, p2⟩⟩
  rcases List.mem_cons.1 hy with rfl | hy
  ·refine ⟨hss (s, b, .box cells) List.mem_cons_self, .inl ?_⟩
   have := (h.mem.obj _ _ _ (List.mem_cons_self (l := objs))).1.1
   have := h.mem.pos
   show b ≠ 0
   omega
  ·exact p1 y hy
theorem jM {ops : Array Oper} {o : Oper} {rest : List Oper} (k : de objs' objs) (h : AO P w0 N ops Q o rest env objs') : AO P w0 N ops Q o rest env objs := ⟨fun a w K hs hK => h.run a w K (hs.pick k) hK⟩
end
def eqC : TV -> TV -> Bool
 | .int _ m, .int _ n => decide (m = n)
 | .str s, .str u => decide (s = u)
 | .bool b, .bool c => b == c
 | _, _ => false
def eqL : List TV -> List TV -> Bool
 | t :: ts, u :: us => eqC t u && eqL ts us
 | _, _ => true
def af9 (P : Program) (f : Field) (i : Nat) (t u : TV) : Bool :=
 Nat.beq f.offset i && (f.name != "_") && iR P f.type && (match t, u, P.underlying f.type with
   | .int k _, .int k' _, some (.int _) => decide (k = k')
   | .str _, .str _, some .string => true
   | .bool _, .bool _, some .bool => true
   | _, _, _ => false)
def ac5 (P : Program) : Nat -> List Field -> List TV -> List TV -> Bool
 | _, [], [], [] => true
 | i, f :: fs, t :: ts, u :: us => af9 P f i t u && ac5 P (i + 1) fs ts us
 | _, _, _, _ => false
theorem kG {P : Program} {w : World} {t : TypeId} {xs : Array Value} {i : Nat} {v : Value} (h : iR P t = true) (hv : xs[i]? = some v) : (part t xs i).run P w = .ok v w := by
 have hi : i < xs.size := (Array.getElem?_eq_some_iff.1 hv).1
 have he : xs[i] = v := (Array.getElem?_eq_some_iff.1 hv).2
 simp only [part, Sem.run_bind, gz h, Result.andThen_ok]
 simp [hi, he, Sem.run_pure]
theorem md {P : Program} {w : World} {objs : aH} (d : Nat) (xs ys : Array Value) : ∀ (fs : List Field) (i : Nat) (ts us : List TV), ac5 P i fs ts us = true ->
   (∀ j t, ts[j]? = some t -> ∃ v, xs[i + j]? = some v /\ Rep w objs t v) -> (∀ j t, us[j]? = some t -> ∃ v, ys[i + j]? = some v /\ Rep w objs t v) ->
   (Op.eqFields (d + 1) xs ys fs).run P w = .ok (eqL ts us) w
 | [], i, [], [], _, _, _ => rfl
 | f :: fs, i, t :: ts, u :: us, h, hx, hy => by
   simp only [ac5, af9, Bool.and_eq_true] at h
   obtain ⟨⟨⟨⟨h1, h2⟩, h3⟩, h4⟩, h5⟩ := h
   have h1 := Nat.eq_of_beq_eq_true h1
   obtain ⟨v, hv, hr⟩ := hx 0 t rfl
   obtain ⟨v', hv', hr'⟩ := hy 0 u rfl
   have ih := md (P := P) (w := w) (objs := objs) d xs ys fs (i + 1) ts us h5 (fun j t' hj => by
     have := hx (j + 1) t' (by simpa using hj)
     rwa [show i + (j + 1) = i + 1 + j by omega] at this) (fun j t' hj => by
     have := hy (j + 1) t' (by simpa using hj)
     rwa [show i + (j + 1) = i + 1 + j by omega] at this)
   rw [Nat.add_zero] at hv hv'
   have hn : f.name ≠ "_" := by simpa using h2
   have he : (Op.equalIn (d + 1) f.type v v').run P w = .ok (eqC t u) w := by
     split at h4
     ·rename_i k m k' n hk hu
      have hkk : k = k' := of_decide_eq_true h4
      subst hkk
      rw [hr.int_inv, hr'.int_inv, run_equalIn_int w d f.type k _ m n hu]
      rw [show eqC (.int k m) (.int k n) = decide (m = n) from rfl, af4]
     ·rename_i s s' hu
      rw [hr.str_inv, hr'.str_inv, run_equalIn_string w d f.type s s' hu, oH]; rfl
     ·rename_i b c hu
      rw [hr.bool_inv, hr'.bool_inv, run_equalIn_bool' w d f.type b c hu]; rfl
     ·cases h4
   simp only [Op.eqFields, if_pos hn, Sem.run_bind, h1, kG h3 hv, kG h3 hv', Result.andThen_ok, he, eqL]
   cases hq : eqC t u
   ·simp [Sem.run_pure]
   ·simp [ih]
 | [], i, _ :: _, _, h, _, _ => by simp [ac5] at h
 | [], i, [], _ :: _, h, _, _ => by simp [ac5] at h
 | _ :: _, i, [], _, h, _, _ => by simp [ac5] at h
 | _ :: _, i, _ :: _, [], h, _, _ => by simp [ac5] at h
def acY (P : Program) (T : TypeId) (l l' : List TV) : Bool :=
 (match P.underlying T with | some (.struct _) => true | _ => false) && !P.stoodInHeld T && !P.eqGuardType P.depth T && ac5 P 0 (P.fieldsOf T).toList l l'
section
variable {P : Program} {w0 : World} {N : Nat} {env : Env} {objs : aH} {o : Oper}
theorem pO {w : World} {T : TypeId} {l l' : List TV} {vs vs' : Array Value} (hT : acY P T l l' = true) (h1 : Rep w objs (.agg l) (.agg vs)) (h2 : Rep w objs (.agg l') (.agg vs')) : (Op.equalIn 10000 T (.agg vs) (.agg vs')).run P w = .ok (eqL l l') w := by
 simp only [acY, Bool.and_eq_true, Bool.not_eq_true'] at hT
 obtain ⟨⟨⟨g1, g2⟩, _⟩, g4⟩ := hT
 have hu : P.underlying T = some (.struct (P.fieldsOf T)) := by
   unfold Program.fieldsOf
   split at g1
   ·rename_i fs hf; rw [hf]
   ·cases g1
 rw [show (10000 : Nat) = 9998 + 1 + 1 from rfl, run_equalIn_agg w (9998 + 1) T _ _ hu g2]
 have key : ∀ {l : List TV} {vs : Array Value}, Rep w objs (.agg l) (.agg vs) -> ∀ j t, l[j]? = some t -> ∃ v, vs[0 + j]? = some v /\ Rep w objs t v := fun h j t hj => by
   cases h with
   | agg _ _ hi hl hr =>
     have hjl := (List.getElem?_eq_some_iff.1 hj).1
     rw [hl] at hjl
     exact ⟨_, by rw [Nat.zero_add]; exact Array.getElem?_eq_getElem hjl, hr j t _ hj (Array.getElem?_eq_getElem hjl)⟩
 exact md 9998 _ _ _ 0 l l' g4 (key h1) (key h2)
theorem qU {w : World} {l : List TV} {v : Value} (h : Rep w objs (.agg l) v) : ∃ vs, v = .agg vs := by cases h; exact ⟨_, rfl⟩
section
variable {T t2 : TypeId} {x y : Operand} {l l' : List TV}
theorem aek (ho : o.op = .binOp .eql T x y t2) (hx : ev env x = some (.agg l)) (hy : ev env y = some (.agg l')) (hT : acY P T l l' = true) : aU P w0 env objs o (.bool (eqL l l')) := aL fun a w _ hop => by
 have h1 := hop x (by simp [ho, Op.operands]) _ hx
 have h2 := hop y (by simp [ho, Op.operands]) _ hy
 obtain ⟨vs, hv⟩ := qU h1
 obtain ⟨vs', hv'⟩ := qU h2
 rw [hv] at h1
 rw [hv'] at h2
 have hg : P.eqGuardType P.depth T = false := by
   simp only [acY, Bool.and_eq_true, Bool.not_eq_true'] at hT
   exact hT.1.2
 refine ⟨.bool (eqL l l'), ?_, .bool _⟩
 simp only [execOp, ho, hv, hv']
 refine cm ?_
 simp only [Sem.run_bind, run_eqGuard_agg w _ T x y vs vs' hg, Result.andThen_ok, run_eql_struct, pO hT h1 h2]
theorem ado (ho : o.op = .binOp .neq T x y t2) (hx : ev env x = some (.agg l)) (hy : ev env y = some (.agg l')) (hT : acY P T l l' = true) : aU P w0 env objs o (.bool (!(eqL l l'))) := aL fun a w _ hop => by
 have h1 := hop x (by simp [ho, Op.operands]) _ hx
 have h2 := hop y (by simp [ho, Op.operands]) _ hy
 obtain ⟨vs, hv⟩ := qU h1
 obtain ⟨vs', hv'⟩ := qU h2
 rw [hv] at h1
 rw [hv'] at h2
 have hg : P.eqGuardType P.depth T = false := by
   simp only [acY, Bool.and_eq_true, Bool.not_eq_true'] at hT
   exact hT.1.2
 refine ⟨.bool (!(eqL l l')), ?_, .bool _⟩
 simp only [execOp, ho, hv, hv']
 refine cm ?_
 simp only [Sem.run_bind, run_eqGuard_agg w _ T x y vs vs' hg, Result.andThen_ok, run_neq_struct, pO hT h1 h2]
end
section
variable {Q : Exit -> Act -> World -> Prop} {ops : Array Oper} {rest : List Oper} {d T0 : Nat} {pos : String} {af : Array Edge} {g : Option (Nat × Bool)} {T t2 : TypeId} {x y : Operand} {l l' : List TV}
variable {K : Env -> Prop}
end
end
theorem sJ (a : Array UInt8) : (ByteArray.mk a).size = a.size := rfl
section
structure Yd (P : Program) (w0 : World) (env : Env) (objs : aH) (o : Oper) (tv : TV) : Prop where
 go : aU P w0 env objs o tv
variable {P : Program} {w0 : World} {N : Nat} {Q : Exit -> Act -> World -> Prop} {env : Env} {objs : aH} {ops : Array Oper} {rest : List Oper} {d T0 : Nat} {dd : Option Nat} {pos : String} {af : Array Edge} {g : Option (Nat × Bool)}
theorem aay {x : Operand} {tv : TV} (hx : ev env x = some tv) : Yd P w0 env objs ⟨dd, .move x, T0, pos, af, g⟩ (tv) := ⟨acO rfl hx⟩
theorem sp {x : Operand} {tv : TV} (hx : ev env x = some tv) : Yd P w0 env objs ⟨dd, .assign x, T0, pos, af, g⟩ (tv) := ⟨xE rfl hx⟩
theorem xN {c x y : Operand} {tv cv : TV} (hc : ev env c = some cv) (he : cv = .bool true) (hx : ev env x = some tv) : Yd P w0 env objs ⟨dd, .pick c x y, T0, pos, af, g⟩ (tv) := ⟨acJ rfl hc he hx⟩
theorem xJ {c x y : Operand} {tv cv : TV} (hc : ev env c = some cv) (he : cv = .bool false) (hx : ev env y = some tv) : Yd P w0 env objs ⟨dd, .pick c x y, T0, pos, af, g⟩ (tv) := ⟨abZ rfl hc he hx⟩
theorem tp {T : TypeId} {x : Operand} {c : TV} {rr : List TV} {s b m j off : Nat} {rows : List (List TV)} {r0 : List TV} (hA : agT T = false) (hT : iR P T = true) (hx : ev env x = some (.me s b m j off)) (hm : (s, b, bj.row m rows) ∈ objs) (hr : rows[j]? = some r0) (hl : r0.drop off = c :: rr) : Yd P w0 env objs ⟨dd, .load T x, T0, pos, af, g⟩ (c) := ⟨abs rfl hT hx (fun _ => .me s b m j off rows r0 hm hr) hl⟩
theorem nj {T : TypeId} {x : Operand} {c : TV} {rr : List TV} {f : Nat} {l : List TV} (hA : agT T = false) (hT : iR P T = true) (hx : ev env x = some (.cp f l)) (hl : l = c :: rr) : Yd P w0 env objs ⟨dd, .load T x, T0, pos, af, g⟩ (c) := ⟨abs rfl hT hx (fun _ => .cp f l) hl⟩
theorem sZ {T : TypeId} {x : Operand} {c : TV} {rr : List TV} {s b off : Nat} {cells : List TV} (hA : agT T = false) (hT : iR P T = true) (hx : ev env x = some (.mp s b off)) (hm : (s, b, bj.box cells) ∈ objs) (hl : cells.drop off = c :: rr) : Yd P w0 env objs ⟨dd, .load T x, T0, pos, af, g⟩ (c) := ⟨abs rfl hT hx (fun _ => .mp s b off cells hm) hl⟩
theorem jU {T : TypeId} {x : Operand} {tv tv2 : TV} {i : Nat} (hx : ev env x = some tv) (hF : mY P T i = true) (ht : ads (ofT T i) tv = some tv2) : Yd P w0 env objs ⟨dd, .fieldAddr T x i, T0, pos, af, g⟩ (tv2) := ⟨vr rfl hx hF ht⟩
theorem jL {T : TypeId} {x i : Operand} {f m : Nat} {rows : List (List TV)} {kk : IntKind} {n : Int} {j : Nat} {r : List TV} (hx : ev env x = some (.sl f m rows)) (hi : ev env i = some (.int kk n)) (hT : P.underlying T = some (.slice (P.elem T))) (hI : (P.info? (P.elem T)).isSome = true) (hm : P.cellsOf (P.elem T) = m) (hm0 : Nat.blt 0 m = true) (hn : n = (j : Int)) (hr : rows[j]? = some r) : Yd P w0 env objs ⟨dd, .indexAddr T x i, T0, pos, af, g⟩ (.cp f r) := ⟨uZ rfl hx hi hT hI hm hm0 hn hr⟩
theorem jw {T : TypeId} {x i : Operand} {s b off len m : Nat} {rows : List (List TV)} {kk : IntKind} {n : Int} {j jj : Nat} (hx : ev env x = some (.ms s b off len)) (hi : ev env i = some (.int kk n)) (hobj : (s, b, bj.row m rows) ∈ objs) (hT : P.underlying T = some (.slice (P.elem T))) (hI : (P.info? (P.elem T)).isSome = true) (hm : P.cellsOf (P.elem T) = m) (hn : n = (j : Int)) (hk : j < len) (hkk : off + j = jj) : Yd P w0 env objs ⟨dd, .indexAddr T x i, T0, pos, af, g⟩ (.me s b m jj 0) := ⟨hkk ▸ oQ rfl hx hi hobj hT hI hm hn hk⟩
theorem uT {x : Operand} {t : TypeId} {s : ByteArray} (hx : ev env x = some (.str s)) (hT : P.underlying t = some .string) : Yd P w0 env objs ⟨dd, .call { callee := .builtin .len, args := #[x], argTypes := #[t] }, T0, pos, af, g⟩ (.int .i64 (s.size : Int)) := ⟨adY rfl hx hT⟩
theorem sm {x : Operand} {t : TypeId} {f m n : Nat} {rows : List (List TV)} (hx : ev env x = some (.sl f m rows)) (hT : P.underlying t = some (.slice (P.elem t))) (hn : rows.length = n) : Yd P w0 env objs ⟨dd, .call { callee := .builtin .len, args := #[x], argTypes := #[t] }, T0, pos, af, g⟩ (.int .i64 (n : Int)) := ⟨ach rfl hx hT hn⟩
theorem wP {x : Operand} {t : TypeId} {s b off len : Nat} (hx : ev env x = some (.ms s b off len)) (hT : P.underlying t = some (.slice (P.elem t))) : Yd P w0 env objs ⟨dd, .call { callee := .builtin .len, args := #[x], argTypes := #[t] }, T0, pos, af, g⟩ (.int .i64 (len : Int)) := ⟨acm rfl hx hT⟩
theorem pP {x : Operand} {t : TypeId} (hx : ev env x = some .nils) (hT : P.underlying t = some (.slice (P.elem t))) : Yd P w0 env objs ⟨dd, .call { callee := .builtin .len, args := #[x], argTypes := #[t] }, T0, pos, af, g⟩ (.int .i64 0) := ⟨xX rfl hx hT⟩
theorem adR {t t2 : TypeId} {x y : Operand} {k : IntKind} {m n : Int} (hx : ev env x = some (.int k m)) (hy : ev env y = some (.int k n)) : Yd P w0 env objs ⟨dd, .binOp .eql t x y t2, T0, pos, af, g⟩ (.bool (decide (m = n))) := ⟨afw rfl hx hy⟩
theorem adG {t t2 : TypeId} {x y : Operand} {k : IntKind} {m n : Int} (hx : ev env x = some (.int k m)) (hy : ev env y = some (.int k n)) : Yd P w0 env objs ⟨dd, .binOp .neq t x y t2, T0, pos, af, g⟩ (.bool (decide (m ≠ n))) := ⟨afV rfl hx hy⟩
theorem adr {t t2 : TypeId} {x y : Operand} {k : IntKind} {m n : Int} (hx : ev env x = some (.int k m)) (hy : ev env y = some (.int k n)) : Yd P w0 env objs ⟨dd, .binOp .lss t x y t2, T0, pos, af, g⟩ (.bool (decide (m < n))) := ⟨afx rfl hx hy⟩
theorem adX {t t2 : TypeId} {x y : Operand} {k : IntKind} {m n : Int} (hx : ev env x = some (.int k m)) (hy : ev env y = some (.int k n)) : Yd P w0 env objs ⟨dd, .binOp .leq t x y t2, T0, pos, af, g⟩ (.bool (decide (m <= n))) := ⟨afO rfl hx hy⟩
theorem adJ {t t2 : TypeId} {x y : Operand} {k : IntKind} {m n : Int} (hx : ev env x = some (.int k m)) (hy : ev env y = some (.int k n)) : Yd P w0 env objs ⟨dd, .binOp .gtr t x y t2, T0, pos, af, g⟩ (.bool (decide (n < m))) := ⟨afU rfl hx hy⟩
theorem adi {t t2 : TypeId} {x y : Operand} {k : IntKind} {m n : Int} (hx : ev env x = some (.int k m)) (hy : ev env y = some (.int k n)) : Yd P w0 env objs ⟨dd, .binOp .geq t x y t2, T0, pos, af, g⟩ (.bool (decide (n <= m))) := ⟨afq rfl hx hy⟩
theorem aeb {t t2 : TypeId} {x y : Operand} {k : IntKind} {m n c : Int} (hx : ev env x = some (.int k m)) (hy : ev env y = some (.int k n)) (hc : k.wrap (m + n) = c) : Yd P w0 env objs ⟨dd, .binOp .add t x y t2, T0, pos, af, g⟩ (.int k c) := ⟨afD rfl hx hy hc⟩
theorem adA {t t2 : TypeId} {x y : Operand} {k : IntKind} {m n c : Int} (hx : ev env x = some (.int k m)) (hy : ev env y = some (.int k n)) (hc : k.wrap (m - n) = c) : Yd P w0 env objs ⟨dd, .binOp .sub t x y t2, T0, pos, af, g⟩ (.int k c) := ⟨afJ rfl hx hy hc⟩
theorem adQ {t t2 : TypeId} {x y : Operand} {k : IntKind} {m n c : Int} (hx : ev env x = some (.int k m)) (hy : ev env y = some (.int k n)) (hc : k.wrap (m * n) = c) : Yd P w0 env objs ⟨dd, .binOp .mul t x y t2, T0, pos, af, g⟩ (.int k c) := ⟨af2 rfl hx hy hc⟩
theorem mX {T : TypeId} {x i : Operand} {s : ByteArray} {kk : IntKind} {n : Int} {j : Nat} (hx : ev env x = some (.str s)) (hi : ev env i = some (.int kk n)) (hT : P.underlying T = some .string) (hn : n = (j : Int)) (hk : j < s.size) : Yd P w0 env objs ⟨dd, .index T x i, T0, pos, af, g⟩ (.int .u8 (bat s j)) := ⟨aaY rfl hx hi hT hn hk⟩
theorem aaI {t : TypeId} {x : Operand} {v : TV} (hx : ev env x = some v) (he : v = .bool true) : Yd P w0 env objs ⟨dd, .unOp .not t x, T0, pos, af, g⟩ (.bool false) := ⟨vp (b := true) rfl (he ▸ hx)⟩
theorem abj {t : TypeId} {x : Operand} {v : TV} (hx : ev env x = some v) (he : v = .bool false) : Yd P w0 env objs ⟨dd, .unOp .not t x, T0, pos, af, g⟩ (.bool true) := ⟨vp (b := false) rfl (he ▸ hx)⟩
theorem afa {t : TypeId} {x : Operand} {p : Prop} {i : Decidable p} {v : TV} (hx : ev env x = some v) (he : v = .bool (@decide p i)) : Yd P w0 env objs ⟨dd, .unOp .not t x, T0, pos, af, g⟩ (.bool (decide (¬ p))) := ⟨af0 rfl (he ▸ hx)⟩
theorem zu {t : TypeId} {x : Operand} {b : Bool} {v : TV} (hx : ev env x = some v) (he : v = .bool b) : Yd P w0 env objs ⟨dd, .unOp .not t x, T0, pos, af, g⟩ (.bool (!b)) := ⟨vp rfl (he ▸ hx)⟩
theorem abe {t t2 : TypeId} {x y : Operand} {s u : ByteArray} (hx : ev env x = some (.str s)) (hy : ev env y = some (.str u)) : Yd P w0 env objs ⟨dd, .binOp .eql t x y t2, T0, pos, af, g⟩ (.bool (decide (s = u))) := ⟨adH rfl hx hy⟩
theorem aac {t t2 : TypeId} {x y : Operand} {s u : ByteArray} (hx : ev env x = some (.str s)) (hy : ev env y = some (.str u)) : Yd P w0 env objs ⟨dd, .binOp .neq t x y t2, T0, pos, af, g⟩ (.bool (decide (s ≠ u))) := ⟨adp rfl hx hy⟩
theorem lp {src dst : TypeId} {x : Operand} {k k2 : IntKind} {m c : Int} (hx : ev env x = some (.int k m)) (hk : kdT dst = some k2) (hs : (P.underlying src).isSome = true) (hd : P.underlying dst = some (.int k2)) (hc : k2.wrap m = c) : Yd P w0 env objs ⟨dd, .convert src dst x, T0, pos, af, g⟩ (.int k2 c) := ⟨xZ rfl hx hk hs hd hc⟩
theorem gB {x : Operand} {f : Nat} {l : List TV} (hx : ev env x = some (.cp f l)) : Yd P w0 env objs ⟨dd, .nilCheck x, T0, pos, af, g⟩ (.cp f l) := ⟨lj rfl hx (fun _ => .cp f l)⟩
theorem k8 {x : Operand} {s b off : Nat} {cells : List TV} (hx : ev env x = some (.mp s b off)) (hm : (s, b, bj.box cells) ∈ objs) : Yd P w0 env objs ⟨dd, .nilCheck x, T0, pos, af, g⟩ (.mp s b off) := ⟨lj rfl hx (fun _ => .mp s b off cells hm)⟩
theorem kA {x : Operand} {s b m j off : Nat} {rows : List (List TV)} {r0 : List TV} (hx : ev env x = some (.me s b m j off)) (hm : (s, b, bj.row m rows) ∈ objs) (hr : rows[j]? = some r0) : Yd P w0 env objs ⟨dd, .nilCheck x, T0, pos, af, g⟩ (.me s b m j off) := ⟨lj rfl hx (fun _ => .me s b m j off rows r0 hm hr)⟩
theorem j9 {T : TypeId} {x : Operand} {out : List TV} {s b m j off : Nat} {rows : List (List TV)} {r0 : List TV} (hA : agT T = true) (hT : js P T = true) (hi : (P.info? T).isSome = true) (hs : P.cellsOf T = szT T) (hx : ev env x = some (.me s b m j off)) (hm : (s, b, bj.row m rows) ∈ objs) (hr : rows[j]? = some r0) (htk : eg (szT T) (r0.drop off) out) : Yd P w0 env objs ⟨dd, .load T x, T0, pos, af, g⟩ (.agg out) := ⟨fg rfl hT hi hs hx (fun _ => .me s b m j off rows r0 hm hr) htk⟩
theorem gC {T : TypeId} {x : Operand} {out : List TV} {f : Nat} {l : List TV} (hA : agT T = true) (hT : js P T = true) (hi : (P.info? T).isSome = true) (hs : P.cellsOf T = szT T) (hx : ev env x = some (.cp f l)) (htk : eg (szT T) (l) out) : Yd P w0 env objs ⟨dd, .load T x, T0, pos, af, g⟩ (.agg out) := ⟨fg rfl hT hi hs hx (fun _ => .cp f l) htk⟩
theorem kh {T : TypeId} {x : Operand} {out : List TV} {s b off : Nat} {cells : List TV} (hA : agT T = true) (hT : js P T = true) (hi : (P.info? T).isSome = true) (hs : P.cellsOf T = szT T) (hx : ev env x = some (.mp s b off)) (hm : (s, b, bj.box cells) ∈ objs) (htk : eg (szT T) (cells.drop off) out) : Yd P w0 env objs ⟨dd, .load T x, T0, pos, af, g⟩ (.agg out) := ⟨fg rfl hT hi hs hx (fun _ => .mp s b off cells hm) htk⟩
theorem nY {x : Operand} {i : Nat} {l : List TV} {u : TV} (hx : ev env x = some (.tup l)) (ht : l[i]? = some u) : Yd P w0 env objs ⟨dd, .extract x i, T0, pos, af, g⟩ (u) := ⟨zB rfl hx ht⟩
theorem af8 {t t2 : TypeId} {x y : Operand} {k : IntKind} {m n : Int} (hx : ev env x = some (.int k m)) (hy : ev env y = some (.int k n)) : Yd P w0 env objs ⟨dd, .binOp .or t x y t2, T0, pos, af, g⟩ (.int k (orI k m n)) := ⟨ago rfl hx hy⟩
theorem aeE {t t2 : TypeId} {x y : Operand} {k : IntKind} {m n : Int} (hx : ev env x = some (.int k m)) (hy : ev env y = some (.int k n)) : Yd P w0 env objs ⟨dd, .binOp .and t x y t2, T0, pos, af, g⟩ (.int k (agd k m n)) := ⟨afu rfl hx hy⟩
theorem aa2 {T : TypeId} {x : Operand} {i : Nat} {l : List TV} {u : TV} (hx : ev env x = some (.agg l)) (hF : mY P T i = true) (hS : iR P ((P.fieldsOf T).getD i default).type = true) (ht : l[ofT T i]? = some u) : Yd P w0 env objs ⟨dd, .field T x i, T0, pos, af, g⟩ (u) := ⟨ael rfl hx hF hS ht⟩
theorem p7 {T : TypeId} {x : Operand} {s : ByteArray} {lo hi : Operand} {k1 k2 : IntKind} {i j : Nat} {m n : Int} (hx : ev env x = some (.str s)) (hlo : ev env lo = some (.int k1 m)) (hhi : ev env hi = some (.int k2 n)) (hT : P.underlying T = some .string) (hm : m = (i : Int)) (hn : n = (j : Int)) (h1 : i <= j) (h2 : j <= s.size) : Yd P w0 env objs ⟨dd, .slice T x (some lo) (some hi) none, T0, pos, af, g⟩ (.str (s.extract i j)) := ⟨zg rfl hx hlo hhi hT hm hn h1 h2⟩
theorem sI {T : TypeId} {x : Operand} {s : ByteArray} {lo : Operand} {k1 : IntKind} {i : Nat} {m : Int} (hx : ev env x = some (.str s)) (hlo : ev env lo = some (.int k1 m)) (hT : P.underlying T = some .string) (hm : m = (i : Int)) (h1 : i <= s.size) : Yd P w0 env objs ⟨dd, .slice T x (some lo) none none, T0, pos, af, g⟩ (.str (s.extract i s.size)) := ⟨aaC rfl hx hlo hT hm h1⟩
theorem te {T : TypeId} {x : Operand} {s : ByteArray} {hi : Operand} {k2 : IntKind} {j : Nat} {n : Int} (hx : ev env x = some (.str s)) (hhi : ev env hi = some (.int k2 n)) (hT : P.underlying T = some .string) (hn : n = (j : Int)) (h2 : j <= s.size) : Yd P w0 env objs ⟨dd, .slice T x none (some hi) none, T0, pos, af, g⟩ (.str (s.extract 0 j)) := ⟨tO rfl hx hhi hT hn h2⟩
theorem ae5 {t t2 : TypeId} {x y : Operand} {k : IntKind} {m n c : Int} (hx : ev env x = some (.int k m)) (hy : ev env y = some (.int k n)) (hn : n ≠ 0) (hc : k.wrap (m.tdiv n) = c) : Yd P w0 env objs ⟨dd, .binOp .quo t x y t2, T0, pos, af, g⟩ (.int k c) := ⟨afA rfl hx hy hn hc⟩
theorem aeK {t t2 : TypeId} {x y : Operand} {k : IntKind} {m n c : Int} (hx : ev env x = some (.int k m)) (hy : ev env y = some (.int k n)) (hn : n ≠ 0) (hc : m.tmod n = c) : Yd P w0 env objs ⟨dd, .binOp .rem t x y t2, T0, pos, af, g⟩ (.int k c) := ⟨afr rfl hx hy hn hc⟩
theorem aaf {t t2 : TypeId} {x y : Operand} {s u : ByteArray} (hx : ev env x = some (.str s)) (hy : ev env y = some (.str u)) (hl : s.size + u.size <= 9223372036854775807) : Yd P w0 env objs ⟨dd, .binOp .add t x y t2, T0, pos, af, g⟩ (.str (s ++ u)) := ⟨adm rfl hx hy hl⟩
theorem aba {t t2 : TypeId} {x y : Operand} {b c : Bool} (hx : ev env x = some (.bool b)) (hy : ev env y = some (.bool c)) (hu : P.underlying t = some .bool) : Yd P w0 env objs ⟨dd, .binOp .eql t x y t2, T0, pos, af, g⟩ (.bool (b == c)) := ⟨aer rfl hx hy hu⟩
theorem z7 {t t2 : TypeId} {x y : Operand} {b c : Bool} (hx : ev env x = some (.bool b)) (hy : ev env y = some (.bool c)) (hu : P.underlying t = some .bool) : Yd P w0 env objs ⟨dd, .binOp .neq t x y t2, T0, pos, af, g⟩ (.bool (b != c)) := ⟨adC rfl hx hy hu⟩
theorem afe {t t2 : TypeId} {x y : Operand} {k k2 : IntKind} {m n : Int} (hx : ev env x = some (.int k m)) (hy : ev env y = some (.int k2 n)) (hn : 0 <= n) : Yd P w0 env objs ⟨dd, .binOp .shl t x y t2, T0, pos, af, g⟩ (.int k (afl k m n)) := ⟨afQ rfl hx hy hn⟩
theorem abm {T t2 : TypeId} {x y : Operand} {l l' : List TV} (hx : ev env x = some (.agg l)) (hy : ev env y = some (.agg l')) (hT : acY P T l l' = true) : Yd P w0 env objs ⟨dd, .binOp .eql T x y t2, T0, pos, af, g⟩ (.bool (eqL l l')) := ⟨aek rfl hx hy hT⟩
theorem zF {T t2 : TypeId} {x y : Operand} {l l' : List TV} (hx : ev env x = some (.agg l)) (hy : ev env y = some (.agg l')) (hT : acY P T l l' = true) : Yd P w0 env objs ⟨dd, .binOp .neq T x y t2, T0, pos, af, g⟩ (.bool (!(eqL l l'))) := ⟨ado rfl hx hy hT⟩
theorem o_y {op : Op} {tv : TV} (hy : Yd P w0 env objs ⟨some d, op, T0, pos, af, g⟩ tv) (hN : Nat.blt d N = true) (h : AL P w0 N ops Q rest ((d, tv) :: env) objs) : AO P w0 N ops Q ⟨some d, op, T0, pos, af, g⟩ rest env objs := uI rfl hN hy.go h
theorem d_y {K : Env -> Prop} {op : Op} {tv : TV} (hy : Yd P w0 env objs ⟨some d, op, T0, pos, af, g⟩ tv) (hN : Nat.blt d N = true) (h : DR P w0 N ops objs K rest ((d, tv) :: env)) : DO P w0 N ops objs K ⟨some d, op, T0, pos, af, g⟩ rest env := ⟨fun hgr => .run _ _ _ _ _ rfl hN hgr hy.go h⟩
theorem u_y {K : Env -> Prop} {op : Op} {tv : TV} (hy : ∀ objs, Yd P w0 env objs ⟨some d, op, T0, pos, af, none⟩ tv) (hN : Nat.blt d N = true) (h : DU P w0 N K rest ((d, tv) :: env)) : DU P w0 N K (⟨some d, op, T0, pos, af, none⟩ :: rest) env := .run _ _ _ _ _ rfl hN rfl (fun o => (hy o).go) h
end
structure Bx (B : Prop) : Prop where
 go : B
theorem y_ {A : Prop} (h : A := by (first | (first | ((with_reducible first | apply aay | apply sp | apply gB); rfl) | ((with_reducible apply xN); rfl; (with_reducible rfl); rfl) | ((with_reducible apply xJ); rfl; (with_reducible rfl); rfl) | ((with_reducible apply tp); rfl; kernel_rfl; rfl; (repeat (first | with_reducible exact mh | with_reducible refine mt ?_)); (first | (with_reducible assumption) | (refine aM ?_; omega) | (refine ew ?_; simp only [List.length_set, List.length_map]; omega) | exact rfl | assumption); rfl) | ((with_reducible apply nj); rfl; kernel_rfl; rfl; rfl) | ((with_reducible apply sZ); rfl; kernel_rfl; rfl; (repeat (first | with_reducible exact mh | with_reducible refine mt ?_)); rfl) | ((with_reducible apply jU); rfl; kernel_rfl; rfl) | ((with_reducible apply jL); rfl; rfl; kernel_rfl; kernel_rfl; kernel_rfl; rfl; (first | (with_reducible first | exact rfl | exact pb | exact pl | exact pd | exact pe) | exact rfl | exact cw (by omega) | omega); (first | (with_reducible assumption) | (refine aM ?_; omega) | (refine ew ?_; simp only [List.length_set, List.length_map]; omega) | exact rfl | assumption)) | ((with_reducible apply jw); rfl; rfl; (repeat (first | with_reducible exact mh | with_reducible refine mt ?_)); kernel_rfl; kernel_rfl; kernel_rfl; (first | (with_reducible first | exact rfl | exact pb | exact pl | exact pd | exact pe) | exact rfl | exact cw (by omega) | omega); (first | assumption | omega); (first | with_reducible exact Nat.zero_add _ | rfl)) | ((with_reducible apply uT); rfl; kernel_rfl) | ((with_reducible apply sm); rfl; kernel_rfl; (first | exact List.length_map _ | rfl)) | ((with_reducible apply wP); rfl; kernel_rfl) | ((with_reducible apply pP); rfl; kernel_rfl) | ((with_reducible first | apply adR | apply adG | apply adr | apply adX | apply adJ | apply adi | apply nY | apply af8 | apply aeE); rfl; rfl) | ((with_reducible first | apply aeb | apply adA | apply adQ); rfl; rfl; (first | ((with_reducible first | refine adf ?_ | refine acP ?_ | refine ade ?_ | refine sL ?_ | refine IntWalk.i64_in _ ?_ | refine adb _ ?_); omega) | ((with_reducible refine IntWalk.i64_in _ ?_); omega) | (with_reducible assumption) | exact rfl)) | ((with_reducible apply mX); rfl; rfl; kernel_rfl; (first | (with_reducible first | exact rfl | exact pb | exact pl | exact pd | exact pe) | exact rfl | exact cw (by omega) | omega); (first | assumption | omega)) | ((with_reducible apply aaI); rfl; (with_reducible rfl)) | ((with_reducible apply abj); rfl; (with_reducible rfl)) | ((with_reducible apply afa); rfl; (with_reducible rfl)) | ((with_reducible apply zu); rfl; (with_reducible rfl)) | ((with_reducible first | apply abe | apply aac); rfl; rfl) | ((with_reducible apply lp); rfl; rfl; kernel_rfl; kernel_rfl; (first | ((with_reducible first | refine adf ?_ | refine acP ?_ | refine ade ?_ | refine sL ?_ | refine IntWalk.i64_in _ ?_ | refine adb _ ?_); omega) | ((with_reducible refine IntWalk.i64_in _ ?_); omega) | (with_reducible assumption) | exact rfl)) | ((with_reducible apply k8); rfl; (repeat (first | with_reducible exact mh | with_reducible refine mt ?_))) | ((with_reducible apply kA); rfl; (repeat (first | with_reducible exact mh | with_reducible refine mt ?_)); (first | (with_reducible assumption) | (refine aM ?_; omega) | (refine ew ?_; simp only [List.length_set, List.length_map]; omega) | exact rfl | assumption)) | ((with_reducible apply j9); rfl; kernel_rfl; kernel_rfl; kernel_rfl; rfl; (repeat (first | with_reducible exact mh | with_reducible refine mt ?_)); (first | (with_reducible assumption) | (refine aM ?_; omega) | (refine ew ?_; simp only [List.length_set, List.length_map]; omega) | exact rfl | assumption); (first | exact .zero _ | exact .succ _ _ _ _ (.zero _) | exact .succ _ _ _ _ (.succ _ _ _ _ (.zero _)) | exact .succ _ _ _ _ (.succ _ _ _ _ (.succ _ _ _ _ (.zero _))) | exact .succ _ _ _ _ (.succ _ _ _ _ (.succ _ _ _ _ (.succ _ _ _ _ (.zero _)))) | (repeat (first | exact .zero _ | apply eg.succ)))) | ((with_reducible apply gC); rfl; kernel_rfl; kernel_rfl; kernel_rfl; rfl; (first | exact .zero _ | exact .succ _ _ _ _ (.zero _) | exact .succ _ _ _ _ (.succ _ _ _ _ (.zero _)) | exact .succ _ _ _ _ (.succ _ _ _ _ (.succ _ _ _ _ (.zero _))) | exact .succ _ _ _ _ (.succ _ _ _ _ (.succ _ _ _ _ (.succ _ _ _ _ (.zero _)))) | (repeat (first | exact .zero _ | apply eg.succ)))) | ((with_reducible apply kh); rfl; kernel_rfl; kernel_rfl; kernel_rfl; rfl; (repeat (first | with_reducible exact mh | with_reducible refine mt ?_)); (first | exact .zero _ | exact .succ _ _ _ _ (.zero _) | exact .succ _ _ _ _ (.succ _ _ _ _ (.zero _)) | exact .succ _ _ _ _ (.succ _ _ _ _ (.succ _ _ _ _ (.zero _))) | exact .succ _ _ _ _ (.succ _ _ _ _ (.succ _ _ _ _ (.succ _ _ _ _ (.zero _)))) | (repeat (first | exact .zero _ | apply eg.succ)))) | ((with_reducible apply aa2); rfl; kernel_rfl; kernel_rfl; rfl) | ((with_reducible apply p7); rfl; rfl; rfl; kernel_rfl; (first | (with_reducible first | exact rfl | exact pb | exact pl | exact pd | exact pe) | exact rfl | exact cw (by omega) | omega); (first | (with_reducible first | exact rfl | exact pb | exact pl | exact pd | exact pe) | exact rfl | exact cw (by omega) | omega); (first | assumption | omega); (first | assumption | omega)) | ((with_reducible apply sI); rfl; rfl; kernel_rfl; (first | (with_reducible first | exact rfl | exact pb | exact pl | exact pd | exact pe) | exact rfl | exact cw (by omega) | omega); (first | assumption | omega)) | ((with_reducible apply te); rfl; rfl; kernel_rfl; (first | (with_reducible first | exact rfl | exact pb | exact pl | exact pd | exact pe) | exact rfl | exact cw (by omega) | omega); (first | assumption | omega)) | ((with_reducible apply ae5); rfl; rfl; omega; (first | ((with_reducible first | refine adf ?_ | refine acP ?_ | refine ade ?_ | refine sL ?_ | refine IntWalk.i64_in _ ?_ | refine adb _ ?_); omega) | ((with_reducible refine IntWalk.i64_in _ ?_); omega) | (with_reducible assumption) | exact rfl)) | ((with_reducible apply aeK); rfl; rfl; omega; exact rfl) | ((with_reducible apply aaf); rfl; rfl; (first | assumption | omega | (simp only [ByteArray.size_append, sJ, List.size_toArray, List.length_cons, List.length_nil]; omega))) | ((with_reducible first | apply aba | apply z7); rfl; rfl; kernel_rfl) | ((with_reducible apply afe); rfl; rfl; omega) | ((with_reducible first | apply abm | apply zF); rfl; rfl; kernel_rfl)) | fail)) : A := h
theorem yu_ {A : Prop} (h : A := by (first | (intro objs; first | ((with_reducible first | apply aay | apply sp | apply gB); rfl) | ((with_reducible apply nj); rfl; kernel_rfl; rfl; rfl) | ((with_reducible apply jU); rfl; kernel_rfl; rfl) | ((with_reducible apply jL); rfl; rfl; kernel_rfl; kernel_rfl; kernel_rfl; rfl; (first | (with_reducible first | exact rfl | exact pb | exact pl | exact pd | exact pe) | exact rfl | exact cw (by omega) | omega); (first | (with_reducible assumption) | (refine aM ?_; omega) | (refine ew ?_; simp only [List.length_set, List.length_map]; omega) | exact rfl | assumption)) | ((with_reducible apply uT); rfl; kernel_rfl) | ((with_reducible apply sm); rfl; kernel_rfl; (first | exact List.length_map _ | rfl)) | ((with_reducible first | apply adR | apply adG | apply adr | apply adX | apply adJ | apply adi | apply nY); rfl; rfl) | ((with_reducible first | apply aeb | apply adA | apply adQ); rfl; rfl; (first | ((with_reducible first | refine adf ?_ | refine acP ?_ | refine ade ?_ | refine sL ?_ | refine IntWalk.i64_in _ ?_ | refine adb _ ?_); omega) | ((with_reducible refine IntWalk.i64_in _ ?_); omega) | (with_reducible assumption) | exact rfl)) | ((with_reducible apply mX); rfl; rfl; kernel_rfl; (first | (with_reducible first | exact rfl | exact pb | exact pl | exact pd | exact pe) | exact rfl | exact cw (by omega) | omega); (first | assumption | omega)) | ((with_reducible apply lp); rfl; rfl; kernel_rfl; kernel_rfl; (first | ((with_reducible first | refine adf ?_ | refine acP ?_ | refine ade ?_ | refine sL ?_ | refine IntWalk.i64_in _ ?_ | refine adb _ ?_); omega) | ((with_reducible refine IntWalk.i64_in _ ?_); omega) | (with_reducible assumption) | exact rfl)) | ((with_reducible apply gC); rfl; kernel_rfl; kernel_rfl; kernel_rfl; rfl; (first | exact .zero _ | exact .succ _ _ _ _ (.zero _) | exact .succ _ _ _ _ (.succ _ _ _ _ (.zero _)) | exact .succ _ _ _ _ (.succ _ _ _ _ (.succ _ _ _ _ (.zero _))) | exact .succ _ _ _ _ (.succ _ _ _ _ (.succ _ _ _ _ (.succ _ _ _ _ (.zero _)))) | (repeat (first | exact .zero _ | apply eg.succ))))) | fail)) : A := h
theorem rr_ {A : Prop} (h : A := by (first | with_reducible rfl | fail)) : A := h
theorem dd_ {A : Prop} (h : A := by (first | assumption | omega | fail)) : A := h
theorem aj {A B : Prop} (h : B) (hi : Bx B -> A := by (first | (intro hB; (with_reducible apply adI); rfl; rfl; kernel_rfl; exact hB.go) | fail)) : A := hi ⟨h⟩
theorem kQ {A B : Prop} (h : B) (hi : Bx B -> A := by (first | (intro hB; (with_reducible apply o9); rfl; rfl; kernel_rfl; kernel_rfl; rfl; kernel_rfl; rfl; rfl; rfl; rfl; exact hB.go) | fail)) : A := hi ⟨h⟩
theorem f9 {A B : Prop} (h : B) (hi : Bx B -> A := by (first | (intro hB; (with_reducible apply aeX); rfl; rfl; rfl; (first | (with_reducible first | exact rfl | exact pb | exact pl | exact pd | exact pe) | exact rfl | exact cw (by omega) | omega); kernel_rfl; kernel_rfl; rfl; rfl; kernel_rfl; omega; exact hB.go) | fail)) : A := hi ⟨h⟩
theorem aD {A B : Prop} (h : B) (hi : Bx B -> A := by (first | (intro hB; (with_reducible apply af3); rfl; rfl; rfl; exact hB.go) | fail)) : A := hi ⟨h⟩
theorem cH {A B : Prop} (h : B) (hi : Bx B -> A := by (first | (intro hB; (with_reducible apply afS); rfl; rfl; kernel_rfl; kernel_rfl; rfl; kernel_rfl; rfl; rfl; rfl; rfl; exact hB.go) | fail)) : A := hi ⟨h⟩
theorem aaO {A B : Prop} (h : B) (hi : Bx B -> A := by (first | (intro hB; (with_reducible apply afo); rfl; rfl; kernel_rfl; kernel_rfl; rfl; kernel_rfl; rfl; rfl; rfl; rfl; exact hB.go) | fail)) : A := hi ⟨h⟩
theorem ac {A B : Prop} (h : B) (hi : Bx B -> A := by (first | (intro hB; (with_reducible apply yV); rfl; rfl; rfl; kernel_rfl; (repeat (first | with_reducible exact mh | with_reducible refine mt ?_)); (first | exact .nil _ | exact .put _ _ _ _ _ (.nil _) | exact .skip _ _ _ _ _ (.put _ _ _ _ _ (.nil _)) | exact .skip _ _ _ _ _ (.skip _ _ _ _ _ (.put _ _ _ _ _ (.nil _))) | (repeat (first | exact .nil _ | apply cy.put | apply cy.skip))); (repeat (first | with_reducible exact Upd.head _ | with_reducible apply Upd.tail)); kernel_rfl; exact hB.go) | fail)) : A := hi ⟨h⟩
theorem bE {A B : Prop} (h : B) (hi : Bx B -> A := by (first | (intro hB; (with_reducible apply yk); rfl; rfl; rfl; kernel_rfl; (repeat (first | with_reducible exact mh | with_reducible refine mt ?_)); (first | (with_reducible assumption) | (refine aM ?_; omega) | (refine ew ?_; simp only [List.length_set, List.length_map]; omega) | exact rfl | assumption); (first | exact .nil _ | exact .put _ _ _ _ _ (.nil _) | exact .skip _ _ _ _ _ (.put _ _ _ _ _ (.nil _)) | exact .skip _ _ _ _ _ (.skip _ _ _ _ _ (.put _ _ _ _ _ (.nil _))) | (repeat (first | exact .nil _ | apply cy.put | apply cy.skip))); kernel_rfl; rfl; (repeat (first | with_reducible exact Upd.head _ | with_reducible apply Upd.tail)); exact hB.go) | fail)) : A := hi ⟨h⟩
theorem uA {A B : Prop} (h : B) (hi : Bx B -> A := by (first | (intro hB; (with_reducible apply ck); rfl; rfl; rfl; kernel_rfl; (repeat (first | with_reducible exact mh | with_reducible refine mt ?_)); (first | with_reducible assumption | exact aO _ | exact ao _ | exact aT _ | exact List.length_map _ | assumption | rfl); (first | (show List.length _ = 1; rfl) | (show List.length _ = 2; rfl) | (show List.length _ = 0; rfl) | (show List.length _ = 3; rfl) | (first | with_reducible assumption | exact aO _ | exact ao _ | exact aT _ | exact List.length_map _ | assumption | rfl)); omega; rfl; (intro bq; (repeat (first | with_reducible exact Upd.head _ | with_reducible apply Upd.tail))); exact hB.go) | fail)) : A := hi ⟨h⟩
theorem ae9 {A B : Prop} (h : B) (hi : Bx B -> A := by (first | (intro hB; (with_reducible apply yM); rfl; rfl; rfl; kernel_rfl; (repeat (first | with_reducible exact mh | with_reducible refine mt ?_)); (with_reducible assumption); (first | assumption | omega); (first | (show List.length _ = 1; rfl) | (show List.length _ = 2; rfl) | (show List.length _ = 0; rfl) | (show List.length _ = 3; rfl) | (first | with_reducible assumption | exact aO _ | exact ao _ | exact aT _ | exact List.length_map _ | assumption | rfl)); omega; (intro bq pq; (repeat (first | with_reducible exact Upd.head _ | with_reducible apply Upd.tail))); exact hB.go) | fail)) : A := hi ⟨h⟩
theorem aej {A B : Prop} (h : B) (hi : Bx B -> A := by (first | (intro hB; (with_reducible apply lV); rfl; rfl; (repeat (first | with_reducible exact mh | with_reducible refine mt ?_)); (first | rfl | assumption); kernel_rfl; kernel_rfl; kernel_rfl; exact hB.go) | fail)) : A := hi ⟨h⟩
theorem eW {A B : Prop} (h : B) (hi : Bx B -> A := by (first | (intro hB; (with_reducible apply aeq); rfl; rfl; (repeat (first | exact TB.nil _ | ((with_reducible apply TB.cons); rfl; rfl; (first | exact .nil _ | exact .put _ _ _ _ _ (.nil _) | exact .skip _ _ _ _ _ (.put _ _ _ _ _ (.nil _)) | exact .skip _ _ _ _ _ (.skip _ _ _ _ _ (.put _ _ _ _ _ (.nil _))) | (repeat (first | exact .nil _ | apply cy.put | apply cy.skip))); kernel_rfl))); kernel_rfl; kernel_rfl; exact hB.go) | fail)) : A := hi ⟨h⟩
theorem ab4 {A B : Prop} (h : B) (hi : Bx B -> A := by (first | (intro hB; (with_reducible apply adE); rfl; rfl; (repeat (first | exact TB.nil _ | ((with_reducible apply TB.cons); rfl; rfl; (first | exact .nil _ | exact .put _ _ _ _ _ (.nil _) | exact .skip _ _ _ _ _ (.put _ _ _ _ _ (.nil _)) | exact .skip _ _ _ _ _ (.skip _ _ _ _ _ (.put _ _ _ _ _ (.nil _))) | (repeat (first | exact .nil _ | apply cy.put | apply cy.skip))); kernel_rfl))); kernel_rfl; kernel_rfl; exact hB.go) | fail)) : A := hi ⟨h⟩
theorem acT {A B : Prop} (h : B) (hi : Bx B -> A := by (first | (intro hB; (with_reducible apply zq); rfl; rfl; rfl; (repeat (first | with_reducible exact mh | with_reducible refine mt ?_)); kernel_rfl; kernel_rfl; kernel_rfl; (first | (with_reducible first | exact rfl | exact pb | exact pl | exact pd | exact pe) | exact rfl | exact cw (by omega) | omega); (first | assumption | omega); exact hB.go) | fail)) : A := hi ⟨h⟩
theorem y9 {A B : Prop} (h : B) (hi : Bx B -> A := by (first | (intro hB; (with_reducible apply sP); rfl; rfl; rfl; kernel_rfl; kernel_rfl; (first | (with_reducible first | exact rfl | exact pb | exact pl | exact pd | exact pe) | exact rfl | exact cw (by omega) | omega); (first | assumption | omega); (first | (with_reducible assumption) | rfl); exact hB.go) | fail)) : A := hi ⟨h⟩
theorem kH {A B : Prop} (h : B) (hi : Bx B -> A := by (first | (intro hB; (with_reducible apply tM); rfl; rfl; rfl; kernel_rfl; kernel_rfl; (first | (with_reducible first | exact rfl | exact pb | exact pl | exact pd | exact pe) | exact rfl | exact cw (by omega) | omega); (first | assumption | omega); (first | (with_reducible assumption) | rfl); exact hB.go) | fail)) : A := hi ⟨h⟩
theorem aeD {A B : Prop} (h : B) (hi : Bx B -> A := by (first | (intro hB; (with_reducible apply uw); rfl; rfl; rfl; kernel_rfl; kernel_rfl; kernel_rfl; (first | (with_reducible first | exact rfl | exact pb | exact pl | exact pd | exact pe) | exact rfl | exact cw (by omega) | omega); (first | assumption | omega); (first | (with_reducible assumption) | rfl); exact hB.go) | fail)) : A := hi ⟨h⟩
theorem my {A B : Prop} (h : B) (hi : Bx B -> A := by (first | (intro hB; (with_reducible apply yY); rfl; (repeat (first | exact Evs.nil | ((with_reducible apply Evs.cons); rfl))); exact hB.go) | fail)) : A := hi ⟨h⟩
theorem acM {A B : Prop} (h : B) (hi : Bx B -> A := by (first | (intro hB; (with_reducible apply yL); rfl; rfl; rfl; kernel_rfl; kernel_rfl; (repeat (first | with_reducible exact mh | with_reducible refine mt ?_)); (first | with_reducible assumption | exact aO _ | exact ao _ | exact aT _ | exact List.length_map _ | assumption | rfl); rfl; omega; (intro bq; (repeat (first | with_reducible exact Upd.head _ | with_reducible apply Upd.tail))); exact hB.go) | fail)) : A := hi ⟨h⟩
theorem pk_ {A : Prop} (h : A := by (first | ((try dsimp only); (repeat (first | with_reducible exact de.refl _ | with_reducible exact de.nil _ | (apply de.consE; (repeat (first | with_reducible exact zr.head _ | with_reducible apply zr.tail)); (first | with_reducible rfl | (focus (simp [aS, nts]; done)) | (focus (simp [aS, nts]; omega)) | rfl)) | ((fail_if_success (apply de.consE)); refine de.drop ?_)))) | fail)) : A := h
theorem nw_ {A : Prop} (h : A := by (first | (repeat (first | exact dg.envNil | refine dg.envCons (by first | rfl | exact yI rfl (by first | omega | (simp; done) | (simp; omega)) | exact gf rfl (by simp [*]) | exact j2 rfl (by simp [*]) | exact aeR rfl (by simp [*])) ?_)) | fail)) : A := h
theorem od_ {A : Prop} (h : A := by (first | (repeat (first | exact dg.envNil | refine dg.envCons rfl ?_)) | fail)) : A := h
theorem x_ {A : Prop} (h : A := by (first | (first | exact .inl rfl | exact .inr rfl) | fail)) : A := h
theorem mm_ {A : Prop} (h : A := by (first | ((repeat (first | with_reducible exact mh | with_reducible refine mt ?_))) | fail)) : A := h
theorem kp_ {A : Prop} (h : A := by (first | (repeat (first | exact jq.nil | (apply jq.cons; rfl))) | fail)) : A := h
structure Bk (_k : Nat) (B : Prop) : Prop where
 go : B
theorem zO {P : Program} {w0 : World} {N : Nat} {Q : Exit -> Act -> World -> Prop} {env : Env} {objs : aH} {B : Prop} {k : Nat} {ops : Array Oper} {b : Bool} {y : Code} (_ : Bk k B) (h : afN (AW P w0 N (.seq (.region k ops b) y) Q env objs)) : AW P w0 N (.seq (.region k ops b) y) Q env objs := h.go
theorem W_ {A B : Prop} (h : B) (hi : Bx B -> A := by (first | (intro hB; (repeat1' (first | ((with_reducible apply o_y); exact y_; rfl) | with_reducible refine cR rfl ?_ | (with_reducible first | apply dp | apply cg | apply fB | apply dJ | apply cC | apply dS | apply dL | apply fl | apply bx | apply (ba rfl) | apply bu | apply bF | apply bv | apply cQ) | refine iJ rfl rfl rfl rr_ ?_ | refine fq rfl rfl rfl rr_ rfl rfl rfl ?_ | refine d7 rfl rfl rfl rr_ rfl rfl ?_ | refine nL rfl rfl rfl rr_ dd_ ?_ | refine ox rfl rfl rfl rr_ dd_ ?_ | refine ce rfl rr_ ?_ | refine cf rfl rr_ ?_ | refine bN rfl rr_ dd_ ?_ | refine bO rfl rr_ dd_ ?_)); exact hB.go) | fail)) : A := hi ⟨h⟩
theorem V_ {A B : Prop} (h : B) (hi : Bx B -> A := by (first | (intro hB; (repeat1' (first | ((with_reducible apply o_y); exact y_; rfl) | with_reducible refine cR rfl ?_ | (with_reducible first | apply dp | apply cg | apply fB | apply dJ | apply cC | apply dS | apply dL | apply fl | apply bx | apply (ba rfl) | apply bu | apply bF | apply bv | apply cQ) | refine iJ rfl rfl rfl rr_ ?_ | refine fq rfl rfl rfl rr_ rfl rfl rfl ?_ | refine d7 rfl rfl rfl rr_ rfl rfl ?_ | refine nL rfl rfl rfl rr_ dd_ ?_ | refine ox rfl rfl rfl rr_ dd_ ?_ | refine ce rfl rr_ ?_ | refine cf rfl rr_ ?_ | refine bN rfl rr_ dd_ ?_ | refine bO rfl rr_ dd_ ?_ | ((with_reducible apply d_y); exact y_; rfl) | with_reducible refine fQ (by kernel_rfl) (by kernel_rfl) ?_ | with_reducible refine jz ?_ | with_reducible refine fV ?_ | with_reducible refine fS rfl ?_ | refine jB rfl rfl rfl rr_ ?_ | refine fU rfl rfl rfl rr_ rfl rfl rfl ?_ | refine eG rfl rfl rfl rr_ rfl rfl ?_ | refine o8 rfl rfl rfl rr_ dd_ ?_ | refine oU rfl rfl rfl rr_ dd_ ?_)); exact hB.go) | fail)) : A := hi ⟨h⟩
theorem H_ {A B : Prop} (k : Nat) (h : B) (hi : Bk k B -> A := by (first | (intro hB; (repeat1' (first | (with_reducible refine zO hB ?_) | ((with_reducible apply o_y); exact y_; rfl) | with_reducible refine cR rfl ?_ | (with_reducible first | apply dp | apply cg | apply fB | apply dJ | apply cC | apply dS | apply dL | apply fl | apply bx | apply (ba rfl) | apply bu | apply bF | apply bv | apply cQ) | refine iJ rfl rfl rfl rr_ ?_ | refine fq rfl rfl rfl rr_ rfl rfl rfl ?_ | refine d7 rfl rfl rfl rr_ rfl rfl ?_ | refine nL rfl rfl rfl rr_ dd_ ?_ | refine ox rfl rfl rfl rr_ dd_ ?_ | refine ce rfl rr_ ?_ | refine cf rfl rr_ ?_ | refine bN rfl rr_ dd_ ?_ | refine bO rfl rr_ dd_ ?_)); exact hB.go) | fail)) : A := hi ⟨h⟩
theorem HV_ {A B : Prop} (k : Nat) (h : B) (hi : Bk k B -> A := by (first | (intro hB; (repeat1' (first | (with_reducible refine zO hB ?_) | ((with_reducible apply o_y); exact y_; rfl) | with_reducible refine cR rfl ?_ | (with_reducible first | apply dp | apply cg | apply fB | apply dJ | apply cC | apply dS | apply dL | apply fl | apply bx | apply (ba rfl) | apply bu | apply bF | apply bv | apply cQ) | refine iJ rfl rfl rfl rr_ ?_ | refine fq rfl rfl rfl rr_ rfl rfl rfl ?_ | refine d7 rfl rfl rfl rr_ rfl rfl ?_ | refine nL rfl rfl rfl rr_ dd_ ?_ | refine ox rfl rfl rfl rr_ dd_ ?_ | refine ce rfl rr_ ?_ | refine cf rfl rr_ ?_ | refine bN rfl rr_ dd_ ?_ | refine bO rfl rr_ dd_ ?_ | ((with_reducible apply d_y); exact y_; rfl) | with_reducible refine fQ (by kernel_rfl) (by kernel_rfl) ?_ | with_reducible refine jz ?_ | with_reducible refine fV ?_ | with_reducible refine fS rfl ?_ | refine jB rfl rfl rfl rr_ ?_ | refine fU rfl rfl rfl rr_ rfl rfl rfl ?_ | refine eG rfl rfl rfl rr_ rfl rfl ?_ | refine o8 rfl rfl rfl rr_ dd_ ?_ | refine oU rfl rfl rfl rr_ dd_ ?_)); exact hB.go) | fail)) : A := hi ⟨h⟩
structure Bc (p q B C : Prop) : Prop where
 t : p -> B
 f : q -> C
theorem c_ {A B C p q : Prop} (h1 : p -> B) (h2 : q -> C) (hi : Bc p q B C -> A := by (first | (intro hB; first | refine dZ rfl rr_ hB.t hB.f | refine cW rfl rr_ hB.t hB.f) | fail)) : A := hi ⟨h1, h2⟩
theorem g_ {A B C p q : Prop} (h1 : p -> B) (h2 : q -> C) (hi : Bc p q B C -> A := by (first | (intro hB; first | refine dx rfl rfl rfl rr_ hB.t hB.f | refine dl rfl rfl rfl rr_ hB.t hB.f | refine dh rfl rfl rfl rr_ hB.t hB.f | refine cN rfl rfl rfl rr_ hB.t hB.f) | fail)) : A := hi ⟨h1, h2⟩
theorem r1_ {A : Prop} (h : A := by (first | (exact aE x_ rfl (.tmp _ _ rfl) fun _ => Fin.flat rfl) | fail)) : A := h
section
variable {P : Program} {w0 : World} {G : World -> Prop} {f : Nat} {args : List TV} {r : Nat -> TV}
structure Cx (P : Program) (w0 : World) (G : World -> Prop) (f : Nat) (args : List TV) (r : Nat -> TV) (B : Prop) : Prop where
 hG : G w0
 hst : aB G
 ct : Ct P G f args r
 go : B
theorem abf {N : Nat} {Q : Exit -> Act -> World -> Prop} {env : Env} {objs : aH} {ops : Array Oper} {rest : List Oper} {d T0 : Nat} {pos : String} {af : Array Edge} {g : Option (Nat × Bool)} {xs : List Operand} {ts : Array TypeId} (hN : Nat.blt d N = true) (hc : ig P f = true) (hct : Ct P G f args r) (hargs : ca env objs xs args) (hG : G w0) (hst : aB G) (h : AL P w0 N ops Q rest ((d, r w0.heap.size) :: env) objs) : AO P w0 N ops Q ⟨some d, .call { callee := .value (.func f), args := xs.toArray, argTypes := ts }, T0, pos, af, g⟩ rest env objs := lR hN hc hargs hG hst hct h
theorem aaR {N : Nat} {K : Env -> Prop} {env : Env} {objs : aH} {ops : Array Oper} {rest : List Oper} {d T0 : Nat} {pos : String} {af : Array Edge} {g : Option (Nat × Bool)} {xs : List Operand} {ts : Array TypeId} (hN : Nat.blt d N = true) (hc : ig P f = true) (hct : Ct P G f args r) (hargs : ca env objs xs args) (hG : G w0) (hst : aB G) (h : DR P w0 N ops objs K rest ((d, r w0.heap.size) :: env)) : DO P w0 N ops objs K ⟨some d, .call { callee := .value (.func f), args := xs.toArray, argTypes := ts }, T0, pos, af, g⟩ rest env := acQ hN hc hargs hG hst hct h
theorem ab {A B : Prop} (hG : G w0) (hst : aB G) (hct : Ct P G f args r) (h : B) (hi : Cx P w0 G f args r B -> A := by (first | (intro hB; (with_reducible apply abf); rfl; kernel_rfl; exact (Cx.ct hB); ((repeat (first | exact ca.nil | ((with_reducible apply ca.cons); rfl; exact .same _)))); exact (Cx.hG hB); exact (Cx.hst hB); exact (Cx.go hB)) | fail)) : A := hi ⟨hG, hst, hct, h⟩
theorem ae {A B : Prop} (hG : G w0) (hst : aB G) (hct : Ct P G f args r) (h : B) (hi : Cx P w0 G f args r B -> A := by (first | (intro hB; (with_reducible apply aaR); rfl; kernel_rfl; exact (Cx.ct hB); ((repeat (first | exact ca.nil | ((with_reducible apply ca.cons); rfl; exact .same _)))); exact (Cx.hG hB); exact (Cx.hst hB); exact (Cx.go hB)) | fail)) : A := hi ⟨hG, hst, hct, h⟩
theorem fO {A B : Prop} (hG : G w0) (hst : aB G) (hct : Ct P G f args r) (h : B) (hi : Cx P w0 G f args r B -> A := by (first | (intro hB; (with_reducible apply abf); rfl; kernel_rfl; exact (Cx.ct hB); ((repeat (first | exact ca.nil | ((with_reducible apply ca.cons); rfl; (first | with_reducible exact bU.same _ | ((with_reducible apply bU.msAll); (repeat (first | with_reducible exact mh | with_reducible refine mt ?_)); (first | with_reducible assumption | exact aO _ | exact ao _ | exact aT _ | exact List.length_map _ | assumption | rfl)) | ((with_reducible apply dF); (repeat (first | with_reducible exact mh | with_reducible refine mt ?_)); (first | with_reducible assumption | exact aO _ | exact ao _ | exact aT _ | exact List.length_map _ | assumption | rfl)) | ((with_reducible apply bU.cut); exact bU.cp0 _ _; rfl)))))); exact (Cx.hG hB); exact (Cx.hst hB); exact (Cx.go hB)) | fail)) : A := hi ⟨hG, hst, hct, h⟩
theorem bW {A B : Prop} (hG : G w0) (hst : aB G) (hct : Ct P G f args r) (h : B) (hi : Cx P w0 G f args r B -> A := by (first | (intro hB; (with_reducible apply aaR); rfl; kernel_rfl; exact (Cx.ct hB); ((repeat (first | exact ca.nil | ((with_reducible apply ca.cons); rfl; (first | with_reducible exact bU.same _ | ((with_reducible apply bU.msAll); (repeat (first | with_reducible exact mh | with_reducible refine mt ?_)); (first | with_reducible assumption | exact aO _ | exact ao _ | exact aT _ | exact List.length_map _ | assumption | rfl)) | ((with_reducible apply dF); (repeat (first | with_reducible exact mh | with_reducible refine mt ?_)); (first | with_reducible assumption | exact aO _ | exact ao _ | exact aT _ | exact List.length_map _ | assumption | rfl)) | ((with_reducible apply bU.cut); exact bU.cp0 _ _; rfl)))))); exact (Cx.hG hB); exact (Cx.hst hB); exact (Cx.go hB)) | fail)) : A := hi ⟨hG, hst, hct, h⟩
end
section
variable {P : Program} {w0 : World} {N : Nat} {Q : Exit -> Act -> World -> Prop} {env : Env} {objs : aH} {o : Oper}
theorem afp {x y : Operand} {ts : Array TypeId} {k : IntKind} {m n : Int} (ho : o.op = .call { callee := .builtin .min, args := #[x, y], argTypes := ts }) (hx : ev env x = some (.int k m)) (hy : ev env y = some (.int k n)) : aU P w0 env objs o (.int k (if n < m then n else m)) := aL fun a w hw hop => by
 have h0 := (hop x (by simp [ho, Op.operands, Call.operands]) _ hx).int_inv
 have h1 := (hop y (by simp [ho, Op.operands, Call.operands]) _ hy).int_inv
 refine ⟨.int k (if n < m then n else m), ?_, .int _ _⟩
 simp only [execOp, ho, resolve, Sem.run_bind, Sem.run_pure, Result.andThen_ok, invoke, builtin, List.map_toArray, List.map_cons, List.map_nil, h0, h1]
 simp [Builtin.min_, Builtin.min2, Sem.run_pure, Result.andThen_ok]
theorem ad8 {ops : Array Oper} {rest : List Oper} {d T0 : Nat} {pos : String} {af : Array Edge} {g : Option (Nat × Bool)} {x y : Operand} {ts : Array TypeId} {k : IntKind} {m n : Int} (hN : Nat.blt d N = true) (hx : ev env x = some (.int k m)) (hy : ev env y = some (.int k n)) (h : AL P w0 N ops Q rest ((d, .int k (if n < m then n else m)) :: env) objs) :
   AO P w0 N ops Q ⟨some d, .call { callee := .builtin .min, args := #[x, y], argTypes := ts }, T0, pos, af, g⟩ rest env objs := uI rfl hN (afp rfl hx hy) h
end
inductive Yu where
 | no
 | one (a b : Nat)
 | many (l : List (Nat × Nat))
 | pair (x y : Yu)
def Pt : Type := Nat -> Yu
def Pt.put (p : Pt) (i : Nat) (y : Yu) : Pt := fun j => if j = i then y else p j
theorem Pt.put_ne {p : Pt} {i j : Nat} {y : Yu} (h : j ≠ i) : p.put i y j = p j := if_neg h
theorem Pt.put_eq {p : Pt} {i : Nat} {y : Yu} : p.put i y i = y := if_pos rfl
def sR (ops : Array Oper) (c m : Nat) : Prop := m = c \/ (m < c /\ ((Region.before ops).getD c 0).testBit m = true)
def aag {α : Type} (ops : Array Oper) (c : Nat) (T : Pt -> α) : Prop := ∀ p p' : Pt, (∀ m, sR ops c m -> p m = p' m) -> T p = T p'
def MkW (P : Program) (w0 : World) (env : Env) (o : Oper) (C R : aH) (I : Yu -> Prop) (O : Yu -> aH) (T : Yu -> TV) : Prop :=
 ∀ (a : Act) (w : World) (K : Act -> World -> Prop) (Q : Exit -> Act -> World -> Prop) (gs : List (TV × Value)), dv w0 (C ++ R) w -> (∀ x ∈ o.op.operands.toList, ∀ v, ev env x = some v -> Rep w (C ++ R) v (a.eval x)) -> Rep w (C ++ R) (.gh gs) undef ->
   (∀ y v w', I y -> dv w0 (O y ++ R) w' -> Rep w' (O y ++ R) (.gh gs) undef -> Rep w' (O y ++ R) (T y) v -> K (a.put o.dst v) w') -> o.wp P a w K Q
theorem mkS {P : Program} {w0 : World} {env : Env} {o : Oper} {C R : aH} {I : Yu -> Prop} {O : Yu -> aH} {T : Yu -> TV} (h : ∀ (a : Act) (w : World) (K : Act -> World -> Prop) (Q : Exit -> Act -> World -> Prop), dv w0 (C ++ R) w -> (∀ x ∈ o.op.operands.toList, ∀ v, ev env x = some v -> Rep w (C ++ R) v (a.eval x)) ->
   (∀ y v w', I y -> dv w0 (O y ++ R) w' -> lb w (C ++ R) w' (O y ++ R) -> Rep w' (O y ++ R) (T y) v -> K (a.put o.dst v) w') -> o.wp P a w K Q) : MkW P w0 env o C R I O T :=
 fun a w K Q _ h1 h2 h3 h4 => h a w K Q h1 h2 fun y v w' a1 a2 a3 a4 => h4 y v w' a1 a2 (h3.step a3) a4
structure Mks where
 on : Nat -> Bool
 O : Nat -> Pt -> aH
 src : Nat -> Option Nat
 I : Nat -> Yu -> Prop
def Mks.cons (M : Mks) (c : Nat) (p : Pt) : aH := match M.src c with
 | some i => M.O i p
 | none => []
section
variable {P : Program} {w0 : World} {N : Nat} {Q : Exit -> Act -> World -> Prop} {objs : aH} {ops : Array Oper}
def OpM (P : Program) (w0 : World) (N : Nat) (ops : Array Oper) (objs : aH) (M : Mks) (σ : Pt -> Nat -> Env) (c : Nat) (o : Oper) : Prop :=
 ∃ T, o.guard = none /\ ((∃ d, o.dst = some d /\ d < N /\ ∀ p t, lk t (σ p (c + 1)) = lk t ((d, T p) :: σ p c)) \/ (o.dst = none /\ ∀ p t, lk t (σ p (c + 1)) = lk t (σ p c))) /\ aag ops c T /\
   ((M.on c = false /\ M.src c = none /\ ∀ p R, (∀ x ∈ objs, x ∈ R) -> aU P w0 (σ p c) R o (T p)) \/
    (M.on c = true /\ aag ops c (M.O c) /\ (∀ i, M.src c = some i -> i ≠ c /\ (i < ops.size -> sR ops c i) /\ M.on i = true) /\
      ∀ p R, (∀ x ∈ objs, x ∈ R) -> MkW P w0 (σ p c) o (M.cons c p) R (M.I c) (fun y => M.O c (p.put c y)) (fun y => T (p.put c y))))
theorem JY.pick {objs' : aH} {σ : Nat -> Env} {k : Nat} {X : Nat -> Prop} {a : Act} {w : World} (h : JY w0 N ops objs σ k X a w) (hp : de objs' objs) : JY w0 N ops objs' σ k X a w :=
 ⟨h.defers, h.size, h.mem.sub hp, fun t c hc h1 h2 v hv => (h.cut t c hc h1 h2 v hv).step (gS hp w)⟩
theorem nd (hok : di ops = true) {k : Nat} (hk : k <= ops.size) {M : Mks} {σ : Pt -> Nat -> Env} (h0 : ∀ p p' t, lk t (σ p 0) = lk t (σ p' 0)) (hop : ∀ c o, c < k -> ops[c]? = some o -> OpM P w0 N ops objs M σ c o) {X : Nat -> Prop} (hX : d9 ops X) {i : Nat} (hni : ¬ X i) (p : Pt) (y : Yu) (t : Nat) : ∀ c, c <= k -> (∀ m, m < c -> fp ops m t -> X m) -> lk t (σ (p.put i y) c) = lk t (σ p c)
 | 0, _, _ => h0 _ _ _
 | c + 1, hc, hw => by
   have hcs : c < ops.size := by omega
   have hoc : ops[c]? = some ops[c] := by simp [hcs]
   obtain ⟨T, _, hs, hT, _⟩ := hop c _ (by omega) hoc
   rcases hs with ⟨d, hd, _, hs⟩ | ⟨_, hs⟩
   ·rw [hs, hs, bV, bV]
    split
    ·rename_i hdt
     have hXc : X c := hw c (Nat.lt_succ_self c) (by unfold fp; rw [hoc]; exact hdt ▸ hd)
     rw [hT (p.put i y) p fun m hm => Pt.put_ne fun e => ?_]
     subst e
     rcases hm with h | ⟨h1, h2⟩
     ·exact hni (h ▸ hXc)
     ·exact hni (eR hok hX c hcs hXc m h1 h2)
    ·exact nd hok hk h0 hop hX hni p y t c (by omega) fun m hm => hw m (by omega)
   ·rw [hs, hs]
    exact nd hok hk h0 hop hX hni p y t c (by omega) fun m hm => hw m (by omega)
theorem JY.put (hok : di ops = true) {k : Nat} (hk : k <= ops.size) {M : Mks} {σ : Pt -> Nat -> Env} (h0 : ∀ p p' t, lk t (σ p 0) = lk t (σ p' 0)) (hop : ∀ c o, c < k -> ops[c]? = some o -> OpM P w0 N ops objs M σ c o) {X : Nat -> Prop} (hX : d9 ops X) {i : Nat} (hni : ¬ X i) {p : Pt} (y : Yu) {objs' : aH} {a : Act} {w : World} (h : JY w0 N ops objs' (σ p) k X a w) : JY w0 N ops objs' (σ (p.put i y)) k X a w :=
 ⟨h.defers, h.size, h.mem, fun t c hc h1 h2 v hv => by
   rw [nd hok hk h0 hop hX hni p y t c hc h1] at hv
   exact h.cut t c hc h1 h2 v hv⟩
def acp (M : Mks) (n k : Nat) (X : Nat -> Prop) (i : Nat) : Prop := (i < n -> X i) /\ M.on i = true /\ ∀ c, c < k -> M.src c = some i -> ¬ X c
def MO (M : Mks) (objs : aH) (n k : Nat) (X : Nat -> Prop) (p : Pt) (objs' : aH) : Prop := ∃ l : List Nat, l.Nodup /\ (∀ i, i ∈ l ↔ acp M n k X i) /\ objs' = l.flatMap (fun i => M.O i p) ++ objs
theorem MO.sub {M : Mks} {n k : Nat} {X : Nat -> Prop} {p : Pt} {objs' : aH} (h : MO M objs n k X p objs') : ∀ x ∈ objs, x ∈ objs' := fun x hx => by
 obtain ⟨l, _, _, rfl⟩ := h
 exact List.mem_append_right _ hx
def JM (w0 : World) (N : Nat) (ops : Array Oper) (objs : aH) (M : Mks) (σ : Pt -> Nat -> Env) (k : Nat) (X : Nat -> Prop) (a : Act) (w : World) : Prop :=
 ∃ p objs', MO M objs ops.size k X p objs' /\ JY w0 N ops objs' (σ p) k X a w /\ ∀ i, i < k -> X i -> M.on i = true -> M.I i (p i)
theorem xy {M : Mks} {k : Nat} {σ : Pt -> Nat -> Env} (hop : ∀ c o, c < k -> ops[c]? = some o -> OpM P w0 N ops objs M σ c o) (p : Pt) : ∀ i o, i < k -> ops[i]? = some o -> wO o (σ p i) (σ p (i + 1)) := fun i o hi ho => by
 obtain ⟨T, _, h, _⟩ := hop i o hi ho
 rcases h with ⟨d, h1, _, h3⟩ | ⟨h1, h3⟩
 ·exact .inl ⟨d, T p, h1, h3 p⟩
 ·exact .inr ⟨h1, h3 p⟩
open Classical in
noncomputable def jgs (ops : Array Oper) (σ : Nat -> Env) (k : Nat) (X : Nat -> Prop) (a : Act) : List (TV × Value) := (List.range (k + 1)).flatMap fun c => (σ c).filterMap fun e => if (∀ i, i < c -> fp ops i e.1 -> X i) /\ (∀ i, c <= i -> i < k -> fp ops i e.1 -> ¬ X i) then (lk e.1 (σ c)).map fun v => (v, a.tmps.getD e.1 undef) else none
theorem zE {t : Nat} {v : TV} : ∀ {e : Env}, lk t e = some v -> ∃ u, (t, u) ∈ e
 | [], h => by cases h
 | (s, u) :: r, h => by
   rw [bV] at h
   split at h
   ·rename_i hs; exact ⟨u, hs ▸ List.mem_cons_self⟩
   ·obtain ⟨u', h'⟩ := zE h; exact ⟨u', List.mem_cons_of_mem _ h'⟩
theorem JY.gh {σ : Nat -> Env} {k : Nat} {X : Nat -> Prop} {a : Act} {w : World} (h : JY w0 N ops objs σ k X a w) : Rep w objs (.gh (jgs ops σ k X a)) undef := .gh _ _ fun i t u hi => by
 have hm := List.mem_of_getElem? hi
 unfold jgs at hm
 obtain ⟨c, hc, he⟩ := List.mem_flatMap.1 hm
 obtain ⟨e, _, he⟩ := List.mem_filterMap.1 he
 split at he
 ·rename_i hcd
  obtain ⟨v, hv, he⟩ := Option.map_eq_some_iff.1 he
  cases he
  exact h.cut e.1 c (by have := List.mem_range.1 hc; omega) hcd.1 hcd.2 _ hv
 ·cases he
theorem JY.move {objs' : aH} {σ : Nat -> Env} {k : Nat} {X : Nat -> Prop} {a : Act} {w w' : World} (h : JY w0 N ops objs σ k X a w) (hw : dv w0 objs' w') (hg : Rep w' objs' (.gh (jgs ops σ k X a)) undef) : JY w0 N ops objs' σ k X a w' :=
 ⟨h.defers, h.size, hw, fun t c hc h1 h2 v hv => by
   obtain ⟨u, hu⟩ := zE hv
   have hm : (v, a.tmps.getD t undef) ∈ jgs ops σ k X a := List.mem_flatMap.2 ⟨c, List.mem_range.2 (by omega), List.mem_filterMap.2 ⟨(t, u), hu, by rw [if_pos ⟨h1, h2⟩, hv]; rfl⟩⟩
   obtain ⟨i, hi⟩ := List.getElem?_of_mem hm
   cases hg with
   | gh _ _ hh => exact hh i _ _ hi⟩
theorem afI (hok : di ops = true) {k : Nat} (hk : k <= ops.size) {M : Mks} {σ : Pt -> Nat -> Env} (h0 : ∀ p p' t, lk t (σ p 0) = lk t (σ p' 0)) (hop : ∀ c o, c < k -> ops[c]? = some o -> OpM P w0 N ops objs M σ c o) (hinj : ∀ c c' i, c < k -> c' < k -> M.src c = some i -> M.src c' = some i -> c = c') (hps : ∀ j, ¬ j < ops.size -> ∀ p p', M.O j p = M.O j p')
   {X : Nat -> Prop} {a : Act} {w : World} (hJ : JM w0 N ops objs M σ k X a w) (hX : d9 ops X) (hXk : ∀ i, X i -> i < k) {i : Nat} {o : Oper} (ho : ops[i]? = some o) (hik : i < k) (hni : ¬ X i) (hX' : d9 ops fun k => k = i \/ X k)
   {K : Act -> World -> Prop} (hnext : ∀ a' w', JM w0 N ops objs M σ k (fun k => k = i \/ X k) a' w' -> K a' w') : wpOp P ops Q i K a w := by
 obtain ⟨p, objs', hMO, hJY, hI⟩ := hJ
 obtain ⟨T, hg, hs, hT, hcase⟩ := hop i o hik ho
 have hput : ∀ {objs1 objs2 : aH} {p' : Pt} {v : Value} {w' : World}, JY w0 N ops objs1 (σ p') k X a w -> Rep w' objs2 (T p') v -> dv w0 objs2 w' -> lb w objs1 w' objs2 -> JY w0 N ops objs2 (σ p') k (fun k => k = i \/ X k) (a.put o.dst v) w' := fun {objs1 objs2 p' v w'} hJ hr hsw hst => by
   rcases hs with ⟨d, hd, hdN, hs⟩ | ⟨hd, _⟩
   ·rw [hd]; exact km hok hk hJ hX ho hik hni hd hdN (xy hop p') (hs p') hr hsw hst
   ·rw [hd]; exact wS hJ ho hd hsw hst
 have hput2 : ∀ {objs2 : aH} {p' : Pt} {v : Value} {w' : World}, JY w0 N ops objs2 (σ p') k X a w' -> Rep w' objs2 (T p') v -> dv w0 objs2 w' -> JY w0 N ops objs2 (σ p') k (fun k => k = i \/ X k) (a.put o.dst v) w' := fun {objs2 p' v w'} hJ hr hsw => by
   rcases hs with ⟨d, hd, hdN, hs⟩ | ⟨hd, _⟩
   ·rw [hd]; exact km hok hk hJ hX ho hik hni hd hdN (xy hop p') (hs p') hr hsw (iO _ _)
   ·rw [hd]; exact wS hJ ho hd hsw (iO _ _)
 have hiz : i < ops.size := by omega
 have hread : ∀ {objs2 : aH} (_ : JY w0 N ops objs2 (σ p) k X a w) (x : Operand), x ∈ o.op.operands.toList -> ∀ v, ev (σ p i) x = some v -> Rep w objs2 v (a.eval x) := fun hJ2 x hx v hv => by
   cases x with
   | tmp t =>
     have hl : t ∈ o.looksAt ops := by
       unfold Oper.looksAt
       exact List.mem_append_left _ (List.mem_filterMap.2 ⟨.tmp t, hx, rfl⟩)
     exact rC hok hk hJ2 hX hXk ho hik hni hX' hl hv
   | const u => exact rn hv
   | func f => simp only [ev, Option.some.injEq] at hv; subst hv; exact .fn f [] #[] rfl (by simp)
   | global g => cases hv
 have hw : Region.wanted o (yielded ops a.tmps) = true := by simp [Region.wanted, hg]
 unfold wpOp
 rw [ho]
 simp only [hw, if_true]
 have hbef : ∀ m, sR ops i m -> m ≠ i -> X m := fun m hm hne => by
   rcases hm with h | ⟨h1, h2⟩
   ·exact absurd h hne
   ·rcases eR hok hX' i hiz (.inl rfl) m h1 h2 with h | h
    ·exact absurd h hne
    ·exact h
 have hnb : ∀ c, X c -> ¬ sR ops c i := fun c hc hm => by
   rcases hm with h | ⟨h1, h2⟩
   ·exact hni (h ▸ hc)
   ·exact hni (eR hok hX c (Nat.lt_of_lt_of_le (hXk c hc) hk) hc i h1 h2)
 rcases hcase with ⟨hmk, hsrc, hy⟩ | ⟨hmk, hO, hsrc, hmake⟩
 ·refine .inl (hy p objs' hMO.sub a w _ Q hJY.mem (hread hJY) fun v w' hr hsw hst => ?_)
  refine hnext _ _ ⟨p, objs', ?_, hput hJY hr hsw hst, fun j hj hx hm => ?_⟩
  ·obtain ⟨l, h1, h2, h3⟩ := hMO
   refine ⟨l, h1, fun j => (h2 j).trans ?_, h3⟩
   unfold acp
   constructor
   ·rintro ⟨e2, e3, e4⟩
    refine ⟨fun h => .inr (e2 h), e3, fun c hc hsc hx => ?_⟩
    rcases hx with rfl | hx
    ·rw [hsrc] at hsc; cases hsc
    ·exact e4 c hc hsc hx
   ·rintro ⟨e2, e3, e4⟩
    exact ⟨fun h => (e2 h).resolve_left fun e => (by subst e; rw [hmk] at e3; cases e3), e3, fun c hc hsc hx => e4 c hc hsc (.inr hx)⟩
  ·rcases hx with rfl | hx
   ·rw [hmk] at hm; cases hm
   ·exact hI j hj hx hm
 ·obtain ⟨l, hnd, hl, rfl⟩ := hMO
  -- what stays
  have hstay : ∃ l2 : List Nat, l2.Nodup /\ (∀ j, j ∈ l2 ↔ acp M ops.size k X j /\ M.src i ≠ some j) /\ (l.flatMap (fun i => M.O i p)).Perm (M.cons i p ++ l2.flatMap fun i => M.O i p) := by
    unfold Mks.cons
    cases hsc : M.src i with
    | none => exact ⟨l, hnd, fun j => by rw [hl]; simp, .refl _⟩
    | some s =>
      obtain ⟨hne, hah, hms⟩ := hsrc s hsc
      have hsl : s ∈ l := (hl s).2 ⟨fun h => hbef s (hah h) hne, hms, fun c hc hc2 hx => hni (hinj c i s hc hik hc2 hsc ▸ hx)⟩
      refine ⟨l.erase s, hnd.erase s, fun j => ?_, ?_⟩
      ·rw [hnd.mem_erase_iff, hl]
       constructor
       ·rintro ⟨e1, e2⟩; exact ⟨e2, fun h => e1 (Option.some.inj h).symm⟩
       ·rintro ⟨e1, e2⟩; exact ⟨fun h => e2 (by rw [h]), e1⟩
      ·have := (List.perm_cons_erase hsl).flatMap_right fun i => M.O i p
       rwa [List.flatMap_cons] at this
  obtain ⟨l2, hnd2, hl2, hperm⟩ := hstay
  have hpk : de (M.cons i p ++ (l2.flatMap (fun i => M.O i p) ++ objs)) (l.flatMap (fun i => M.O i p) ++ objs) := .perm (by
    rw [<- List.append_assoc]
    exact (hperm.append_right objs).symm)
  have hJ2 := hJY.pick hpk
  refine .inl (hmake p (l2.flatMap (fun i => M.O i p) ++ objs) (fun x hx => List.mem_append_right _ hx) a w _ Q _ hJ2.mem (hread hJ2) hJ2.gh fun y v w' hIy hsw hgh hr => ?_)
  have heq : l2.flatMap (fun j => M.O j (p.put i y)) = l2.flatMap fun j => M.O j p := by
    have : ∀ l3 : List Nat, (∀ j ∈ l3, j ∈ l2) -> l3.flatMap (fun j => M.O j (p.put i y)) = l3.flatMap fun j => M.O j p := fun l3 => by
      induction l3 with
      | nil => intro _; rfl
      | cons j r ih =>
        intro h
        have hlj := ((hl2 j).1 (h j List.mem_cons_self)).1
        rw [List.flatMap_cons, List.flatMap_cons, ih fun x hx => h x (List.mem_cons_of_mem _ hx)]
        by_cases hjs : j < ops.size
        ·have hoj : ops[j]? = some ops[j] := by simp [hjs]
         have hXj := hlj.1 hjs
         obtain ⟨_, _, _, _, hcj⟩ := hop j _ (hXk j hXj) hoj
         have hOj : aag ops j (M.O j) := by
           rcases hcj with ⟨e, _⟩ | ⟨_, e, _⟩
           ·rw [hlj.2.1] at e; cases e
           ·exact e
         rw [hOj (p.put i y) p fun m hm => Pt.put_ne fun e => hnb j hXj (e ▸ hm)]
        ·rw [hps j hjs (p.put i y) p]
    exact this l2 fun _ h => h
  refine hnext _ _ ⟨p.put i y, M.O i (p.put i y) ++ (l2.flatMap (fun i => M.O i p) ++ objs), ?_, hput2 ((hJ2.move hsw hgh).put hok hk h0 hop hX hni y) hr hsw, fun j hj hx hm => ?_⟩
  ·refine ⟨i :: l2, List.nodup_cons.2 ⟨fun h => hni (((hl2 i).1 h).1.1 hiz), hnd2⟩, fun j => ?_, by rw [List.flatMap_cons, heq, List.append_assoc]⟩
   rw [List.mem_cons, hl2]
   unfold acp
   constructor
   ·rintro (rfl | ⟨⟨e2, e3, e4⟩, e5⟩)
    ·refine ⟨fun _ => .inl rfl, hmk, fun c hc hsc hx => ?_⟩
     have hcs : c < ops.size := by omega
     have hoc : ops[c]? = some ops[c] := by simp [hcs]
     obtain ⟨_, _, _, _, hcc⟩ := hop c _ hc hoc
     rcases hcc with ⟨_, e, _⟩ | ⟨_, _, e, _⟩
     ·rw [hsc] at e; cases e
     ·obtain ⟨e1, e2, _⟩ := e j hsc
      rcases hx with rfl | hx
      ·exact e1 rfl
      ·exact hnb c hx (e2 hiz)
    ·refine ⟨fun h => .inr (e2 h), e3, fun c hc hsc hx => ?_⟩
     rcases hx with rfl | hx
     ·exact e5 hsc
     ·exact e4 c hc hsc hx
   ·rintro ⟨e2, e3, e4⟩
    by_cases hji : j = i
    ·exact .inl hji
    ·exact .inr ⟨⟨fun h => (e2 h).resolve_left hji, e3, fun c hc hsc hx => e4 c hc hsc (.inr hx)⟩, fun h => e4 i hik h (.inl rfl)⟩
  ·rcases hx with rfl | hx
   ·rw [Pt.put_eq]; exact hIy
   ·rw [Pt.put_ne (fun e : j = i => hni (e ▸ hx))]
    exact hI j hj hx hm
theorem acE (hok : di ops = true) {k : Nat} (hk : k <= ops.size) (htl : fG ops k = true) {M : Mks} {σ : Pt -> Nat -> Env} (hop : ∀ c o, c < k -> ops[c]? = some o -> OpM P w0 N ops objs M σ c o) {ms : List Nat} (hms : ms.Nodup) (hmem : ∀ i, i ∈ ms ↔ acp M ops.size k (· < k) i)
   (hQ : ∀ p : Pt, (∀ i, i < k -> M.on i = true -> M.I i (p i)) -> AL P w0 N ops Q (ops.toList.drop k) (σ p k) (ms.flatMap (fun i => M.O i p) ++ objs)) {fuel : Nat} {listed : Array Bool} {a : Act} {w : World} (hsz : listed.size = ops.size) (hun : cO listed <= fuel) (hXk : ∀ i, listed.getD i false = true -> i < k)
   (hall : ∀ j, j < k -> listed.getD j false = true) (hJ : JM w0 N ops objs M σ k (fun i => listed.getD i false = true) a w) : wpAny P .any ops Q fuel listed a w := by
 obtain ⟨p, objs', ⟨l, hnd, hl, rfl⟩, hJY, hI⟩ := hJ
 have hp : ms.Perm l := (List.perm_ext_iff_of_nodup hms hnd).2 fun i => by
   rw [hmem, hl]
   unfold acp
   exact ⟨fun ⟨e2, e3, e4⟩ => ⟨fun h => hall i (e2 h), e3, fun c hc hs _ => e4 c hc hs hc⟩, fun ⟨e2, e3, e4⟩ => ⟨fun h => hXk i (e2 h), e3, fun c hc hs _ => e4 c hc hs (hall c hc)⟩⟩
 exact oA hok hk htl (hQ p fun i hi hm => hI i hi (hall i hi) hm) hsz hun hXk hall (hJY.pick (.perm ((hp.flatMap_right fun i => M.O i p).append_right objs)))
theorem abx (hok : di ops = true) {k : Nat} (hk : k <= ops.size) (htl : fG ops k = true) {M : Mks} {σ : Pt -> Nat -> Env} (hz : ∀ p p' t, lk t (σ p 0) = lk t (σ p' 0)) (hop : ∀ c o, c < k -> ops[c]? = some o -> OpM P w0 N ops objs M σ c o) (hinj : ∀ c c' i, c < k -> c' < k -> M.src c = some i -> M.src c' = some i -> c = c') (hps : ∀ j, ¬ j < ops.size -> ∀ p p', M.O j p = M.O j p')
   {ms : List Nat} (hms : ms.Nodup) (hmem : ∀ i, i ∈ ms ↔ acp M ops.size k (· < k) i) (hQ : ∀ p : Pt, (∀ i, i < k -> M.on i = true -> M.I i (p i)) -> AL P w0 N ops Q (ops.toList.drop k) (σ p k) (ms.flatMap (fun i => M.O i p) ++ objs)) :
   ∀ (fuel : Nat) (listed : Array Bool) (a : Act) (w : World), listed.size = ops.size -> cO listed <= fuel -> (∀ i, listed.getD i false = true -> i < k) -> d9 ops (fun i => listed.getD i false = true) -> JM w0 N ops objs M σ k (fun i => listed.getD i false = true) a w -> wpAny P .any ops Q fuel listed a w :=
 vv hok hk htl (JM w0 N ops objs M σ k) (fun _ _ _ _ hsz hun hXk hall hJ => acE hok hk htl hop hms hmem hQ hsz hun hXk hall hJ) fun _ _ _ _ _ hX hXk ho hik hni hX' hJ _ hnext => afI hok hk hz hop hinj hps hJ hX hXk ho hik hni hX' hnext
end
def pt0 : Pt := fun _ => .no
structure Mki where
 idx : Nat
 O : Pt -> aH
 src : Option Nat
 I : Yu -> Prop
def fnd (L : List Mki) (i : Nat) : Option Mki := L.find? fun m => Nat.beq m.idx i
def Mks.of (L : List Mki) : Mks where
 on i := (fnd L i).isSome
 O i p := match fnd L i with | some m => m.O p | none => []
 src i := (fnd L i).bind (·.src)
 I i y := match fnd L i with | some m => m.I y | none => True
def ab5 (L : List Mki) (src : Option Nat) (p : Pt) : aH := match src with
 | some i => (Mks.of L).O i p
 | none => []
def rN (L : List Mki) : List Mki := L.filter fun m => L.all fun m' => !(match m'.src with | some i => Nat.beq i m.idx | none => false)
structure MWf (L : List Mki) (c : Nat) : Prop where
 lt : ∀ m ∈ L, m.idx < c \/ 1000000 <= m.idx
 pw : L.Pairwise fun a b => a.idx ≠ b.idx /\ ∀ i, a.src = some i -> b.src ≠ some i
theorem wJ {L : List Mki} {i : Nat} (h : ∀ m ∈ L, m.idx ≠ i) : fnd L i = none := List.find?_eq_none.2 fun m hm => by
 rw [yw (h m hm)]; decide
theorem rL {new L : List Mki} {c i : Nat} (hn : ∀ m ∈ new, c <= m.idx /\ m.idx < 1000000) (hi : i < c \/ 1000000 <= i) : fnd (new ++ L) i = fnd L i := by
 unfold fnd
 rw [List.find?_append]
 have : new.find? (fun m => Nat.beq m.idx i) = none := wJ fun m hm => by have := hn m hm; omega
 rw [this]; rfl
theorem iN {L : List Mki} {i : Nat} {m : Mki} (h : fnd L i = some m) : m ∈ L /\ m.idx = i := ⟨List.mem_of_find?_eq_some h, by
 have := List.find?_some h
 exact Nat.eq_of_beq_eq_true this⟩
theorem xr {L : List Mki} {c : Nat} (h : MWf L c) {m : Mki} (hm : m ∈ L) : fnd L m.idx = some m := by
 have hp := h.pw
 clear h
 induction L with
 | nil => cases hm
 | cons x r ih =>
   obtain ⟨h1, h2⟩ := List.pairwise_cons.1 hp
   unfold fnd
   rw [List.find?_cons]
   rcases List.mem_cons.1 hm with rfl | hm
   ·have : Nat.beq m.idx m.idx = true := Nat.beq_refl _
    simp only [this]
   ·have hne : x.idx ≠ m.idx := (h1 m hm).1
    simp only [yw hne]
    exact ih hm h2
section
variable {P : Program} {w0 : World} {N : Nat} {Q : Exit -> Act -> World -> Prop} {objs : aH} {ops : Array Oper}
inductive DM (P : Program) (w0 : World) (N : Nat) (ops : Array Oper) (objs : aH) (K : List Mki -> (Pt -> Env) -> Prop) : Nat -> List Mki -> List Oper -> (Pt -> Env) -> Prop
 | nil (c : Nat) (L : List Mki) (E : Pt -> Env) (h : K L E) : DM P w0 N ops objs K c L [] E
 | run (c : Nat) (L : List Mki) (o : Oper) (rest : List Oper) (E : Pt -> Env) (d : Nat) (T : Pt -> TV) (hd : o.dst = some d) (hN : Nat.blt d N = true) (hg : o.guard = none) (hi : aag ops c T) (hy : ∀ p R, (∀ x ∈ objs, x ∈ R) -> aU P w0 (E p) R o (T p))
     (h : DM P w0 N ops objs K (c + 1) L rest (fun p => (d, T p) :: E p)) : DM P w0 N ops objs K c L (o :: rest) E
 | make (c : Nat) (L : List Mki) (o : Oper) (rest : List Oper) (E : Pt -> Env) (d : Nat) (O : Pt -> aH) (src : Option Nat) (I : Yu -> Prop) (T : Pt -> TV) (hd : o.dst = some d) (hN : Nat.blt d N = true) (hg : o.guard = none) (hi : aag ops c T) (hO : aag ops c O)
     (hs : ∀ i, src = some i -> (i < ops.size -> sR ops c i) /\ (fnd L i).isSome = true /\ ∀ m ∈ L, m.src ≠ some i) (hm : ∀ p R, (∀ x ∈ objs, x ∈ R) -> MkW P w0 (E p) o (ab5 L src p) R I (fun y => O (p.put c y)) (fun y => T (p.put c y)))
     (h : DM P w0 N ops objs K (c + 1) (⟨c, O, src, I⟩ :: L) rest (fun p => (d, T p) :: E p)) : DM P w0 N ops objs K c L (o :: rest) E
 | makeN (c : Nat) (L : List Mki) (o : Oper) (rest : List Oper) (E : Pt -> Env) (O : Pt -> aH) (src : Option Nat) (I : Yu -> Prop) (T : Pt -> TV) (hd : o.dst = none) (hg : o.guard = none) (hi : aag ops c T) (hO : aag ops c O)
     (hs : ∀ i, src = some i -> (i < ops.size -> sR ops c i) /\ (fnd L i).isSome = true /\ ∀ m ∈ L, m.src ≠ some i) (hm : ∀ p R, (∀ x ∈ objs, x ∈ R) -> MkW P w0 (E p) o (ab5 L src p) R I (fun y => O (p.put c y)) (fun y => T (p.put c y)))
     (h : DM P w0 N ops objs K (c + 1) (⟨c, O, src, I⟩ :: L) rest E) : DM P w0 N ops objs K c L (o :: rest) E
theorem OpM.congr {M : Mks} {σ σ' : Pt -> Nat -> Env} {c : Nat} {o : Oper} (h : OpM P w0 N ops objs M σ c o) (h1 : ∀ p, σ' p c = σ p c) (h2 : ∀ p, σ' p (c + 1) = σ p (c + 1)) : OpM P w0 N ops objs M σ' c o := by
 unfold OpM at h |-
 simpa only [h1, h2] using h
theorem abC {K : List Mki -> (Pt -> Env) -> Prop} {c : Nat} {L : List Mki} {l : List Oper} {E : Pt -> Env} (h : DM P w0 N ops objs K c L l E) (hL : MWf L c) (hbig : c + l.length < 1000000) : ∃ (σ : Pt -> Nat -> Env) (new : List Mki) (Ef : Pt -> Env), K (new ++ L) Ef /\ (∀ m ∈ new, c <= m.idx /\ m.idx < 1000000) /\ MWf (new ++ L) (c + l.length) /\ (∀ p, σ p c = E p) /\ (∀ p, σ p (c + l.length) = Ef p) /\ ∀ j o, l[j]? = some o -> OpM P w0 N ops objs (Mks.of (new ++ L)) σ (c + j) o := by
 induction h with
 | nil c L E h => exact ⟨fun p _ => E p, [], E, h, by simp, hL, fun _ => rfl, fun _ => rfl, by simp⟩
 | run c L o rest E d T hd hN hg hi hy h ih =>
   obtain ⟨σ, new, Ef, h1, h2, h3, h4, h5, h6⟩ := ih ⟨fun m hm => (hL.lt m hm).imp Nat.lt_succ_of_lt id, hL.pw⟩ (by rw [List.length_cons] at hbig; omega)
   rw [List.length_cons] at hbig
   have hfn : fnd (new ++ L) c = none := wJ fun m hm => by
     rcases List.mem_append.1 hm with hm | hm
     ·have := h2 m hm; omega
     ·have := hL.lt m hm; omega
   refine ⟨fun p i => if i = c then E p else σ p i, new, Ef, h1, fun m hm => by have := h2 m hm; omega, by rw [List.length_cons, show c + (rest.length + 1) = c + 1 + rest.length by omega]; exact h3, fun p => if_pos rfl, fun p => ?_, fun j o' hj => ?_⟩
   ·dsimp only
    rw [if_neg (by simp), List.length_cons, show c + (rest.length + 1) = c + 1 + rest.length by omega]; exact h5 p
   ·cases j with
    | zero =>
      simp only [List.getElem?_cons_zero, Option.some.injEq] at hj
      subst hj
      refine ⟨T, hg, .inl ⟨d, hd, Nat.blt_eq ▸ hN, fun p t => ?_⟩, hi, .inl ⟨by show (fnd (new ++ L) (c + 0)).isSome = false; rw [Nat.add_zero, hfn]; rfl, by show (fnd (new ++ L) (c + 0)).bind _ = none; rw [Nat.add_zero, hfn]; rfl, fun p R hR => ?_⟩⟩
      ·dsimp only
       rw [if_neg (by omega), if_pos (by omega), Nat.add_zero, h4 p]
      ·dsimp only
       rw [if_pos (by omega)]
       exact hy p R hR
    | succ j =>
      have := h6 j o' (by simpa using hj)
      rw [show c + 1 + j = c + (j + 1) by omega] at this
      exact this.congr (fun p => if_neg (by omega)) fun p => if_neg (by omega)
 | make c L o rest E d O src I T hd hN hg hi hO hs hm h ih =>
   obtain ⟨σ, new, Ef, h1, h2, h3, h4, h5, h6⟩ := ih ⟨fun m hm => by
     rcases List.mem_cons.1 hm with rfl | hm
     ·exact .inl (Nat.lt_succ_self _)
     ·exact (hL.lt m hm).imp Nat.lt_succ_of_lt id, List.pairwise_cons.2 ⟨fun m hm => ⟨by rw [List.length_cons] at hbig; have := hL.lt m hm; dsimp only; omega, fun i hi2 => (hs i hi2).2.2 m hm⟩, hL.pw⟩⟩ (by rw [List.length_cons] at hbig; omega)
   rw [List.length_cons] at hbig
   have happ : new ++ (⟨c, O, src, I⟩ :: L) = (new ++ [⟨c, O, src, I⟩]) ++ L := by simp
   have hfn : fnd (new ++ (⟨c, O, src, I⟩ :: L)) c = some ⟨c, O, src, I⟩ := by
     rw [rL (c := c + 1) h2 (.inl (Nat.lt_succ_self c))]
     unfold fnd
     rw [List.find?_cons]
     have : Nat.beq c c = true := Nat.beq_refl _
     simp only [this]
   have hfl : ∀ i, (i < c \/ 1000000 <= i) -> fnd (new ++ (⟨c, O, src, I⟩ :: L)) i = fnd L i := fun i hic => by
     rw [rL (c := c + 1) h2 (by omega)]
     unfold fnd
     rw [List.find?_cons]
     have : Nat.beq c i = false := yw (by omega)
     simp only [this]
   refine ⟨fun p i => if i = c then E p else σ p i, new ++ [⟨c, O, src, I⟩], Ef, happ ▸ h1, fun m hm => ?_, by rw [List.length_cons, show c + (rest.length + 1) = c + 1 + rest.length by omega]; exact happ ▸ h3, fun p => if_pos rfl, fun p => ?_, fun j o' hj => ?_⟩
   ·rcases List.mem_append.1 hm with hm | hm
    ·have := h2 m hm; omega
    ·simp only [List.mem_singleton] at hm
     subst hm; exact ⟨Nat.le_refl _, by dsimp only; omega⟩
   ·dsimp only
    rw [if_neg (by simp), List.length_cons, show c + (rest.length + 1) = c + 1 + rest.length by omega]; exact h5 p
   ·rw [<- happ]
    cases j with
    | zero =>
      simp only [List.getElem?_cons_zero, Option.some.injEq] at hj
      subst hj
      have hOc : (Mks.of (new ++ (⟨c, O, src, I⟩ :: L))).O c = O := by
        funext p
        show (match fnd (new ++ (⟨c, O, src, I⟩ :: L)) c with | some m => m.O p | none => []) = _
        rw [hfn]
      have hsc : (Mks.of (new ++ (⟨c, O, src, I⟩ :: L))).src c = src := by
        show (fnd (new ++ (⟨c, O, src, I⟩ :: L)) c).bind _ = _
        rw [hfn]; rfl
      have hIc : (Mks.of (new ++ (⟨c, O, src, I⟩ :: L))).I c = I := by
        funext y
        show (match fnd (new ++ (⟨c, O, src, I⟩ :: L)) c with | some m => m.I y | none => True) = _
        rw [hfn]
      rw [Nat.add_zero]
      refine ⟨T, hg, .inl ⟨d, hd, Nat.blt_eq ▸ hN, fun p t => ?_⟩, hi, .inr ⟨by show (fnd (new ++ (⟨c, O, src, I⟩ :: L)) c).isSome = true; rw [hfn]; rfl, by rw [hOc]; exact hO, fun i hi2 => ?_, fun p R hR => ?_⟩⟩
      ·dsimp only
       rw [if_neg (by omega), if_pos rfl, h4 p]
      ·rw [hsc] at hi2
       obtain ⟨e1, e2, _⟩ := hs i hi2
       have hic : i < c \/ 1000000 <= i := by
         obtain ⟨m, hm⟩ := Option.isSome_iff_exists.1 e2
         obtain ⟨g1, g2⟩ := iN hm
         have := hL.lt m g1
         omega
       exact ⟨by omega, e1, by show (fnd (new ++ (⟨c, O, src, I⟩ :: L)) i).isSome = true; rw [hfl i hic]; exact e2⟩
      ·dsimp only
       rw [if_pos rfl, hOc, hIc]
       have hcons : (Mks.of (new ++ (⟨c, O, src, I⟩ :: L))).cons c p = ab5 L src p := by
         unfold Mks.cons ab5
         rw [hsc]
         cases hsr : src with
         | none => rfl
         | some i =>
           have hic : i < c \/ 1000000 <= i := by
             obtain ⟨_, e2, _⟩ := hs i hsr
             obtain ⟨m, hm⟩ := Option.isSome_iff_exists.1 e2
             obtain ⟨g1, g2⟩ := iN hm
             have := hL.lt m g1
             omega
           rw [hsr] at hfl
           show (match fnd (new ++ (⟨c, O, some i, I⟩ :: L)) i with | some m => m.O p | none => []) = (match fnd L i with | some m => m.O p | none => [])
           rw [hfl i hic]
       rw [hcons]
       exact hm p R hR
    | succ j =>
      have := h6 j o' (by simpa using hj)
      rw [show c + 1 + j = c + (j + 1) by omega] at this
      exact this.congr (fun p => if_neg (by omega)) fun p => if_neg (by omega)
 | makeN c L o rest E O src I T hd hg hi hO hs hm h ih =>
   obtain ⟨σ, new, Ef, h1, h2, h3, h4, h5, h6⟩ := ih ⟨fun m hm => by
     rcases List.mem_cons.1 hm with rfl | hm
     ·exact .inl (Nat.lt_succ_self _)
     ·exact (hL.lt m hm).imp Nat.lt_succ_of_lt id, List.pairwise_cons.2 ⟨fun m hm => ⟨by rw [List.length_cons] at hbig; have := hL.lt m hm; dsimp only; omega, fun i hi2 => (hs i hi2).2.2 m hm⟩, hL.pw⟩⟩ (by rw [List.length_cons] at hbig; omega)
   rw [List.length_cons] at hbig
   have happ : new ++ (⟨c, O, src, I⟩ :: L) = (new ++ [⟨c, O, src, I⟩]) ++ L := by simp
   have hfn : fnd (new ++ (⟨c, O, src, I⟩ :: L)) c = some ⟨c, O, src, I⟩ := by
     rw [rL (c := c + 1) h2 (.inl (Nat.lt_succ_self c))]
     unfold fnd
     rw [List.find?_cons]
     have : Nat.beq c c = true := Nat.beq_refl _
     simp only [this]
   have hfl : ∀ i, (i < c \/ 1000000 <= i) -> fnd (new ++ (⟨c, O, src, I⟩ :: L)) i = fnd L i := fun i hic => by
     rw [rL (c := c + 1) h2 (by omega)]
     unfold fnd
     rw [List.find?_cons]
     have : Nat.beq c i = false := yw (by omega)
     simp only [this]
   refine ⟨fun p i => if i = c then E p else σ p i, new ++ [⟨c, O, src, I⟩], Ef, happ ▸ h1, fun m hm => ?_, by rw [List.length_cons, show c + (rest.length + 1) = c + 1 + rest.length by omega]; exact happ ▸ h3, fun p => if_pos rfl, fun p => ?_, fun j o' hj => ?_⟩
   ·rcases List.mem_append.1 hm with hm | hm
    ·have := h2 m hm; omega
    ·simp only [List.mem_singleton] at hm
     subst hm; exact ⟨Nat.le_refl _, by dsimp only; omega⟩
   ·dsimp only
    rw [if_neg (by simp), List.length_cons, show c + (rest.length + 1) = c + 1 + rest.length by omega]; exact h5 p
   ·rw [<- happ]
    cases j with
    | zero =>
      simp only [List.getElem?_cons_zero, Option.some.injEq] at hj
      subst hj
      have hOc : (Mks.of (new ++ (⟨c, O, src, I⟩ :: L))).O c = O := by
        funext p
        show (match fnd (new ++ (⟨c, O, src, I⟩ :: L)) c with | some m => m.O p | none => []) = _
        rw [hfn]
      have hsc : (Mks.of (new ++ (⟨c, O, src, I⟩ :: L))).src c = src := by
        show (fnd (new ++ (⟨c, O, src, I⟩ :: L)) c).bind _ = _
        rw [hfn]; rfl
      have hIc : (Mks.of (new ++ (⟨c, O, src, I⟩ :: L))).I c = I := by
        funext y
        show (match fnd (new ++ (⟨c, O, src, I⟩ :: L)) c with | some m => m.I y | none => True) = _
        rw [hfn]
      rw [Nat.add_zero]
      refine ⟨T, hg, .inr ⟨hd, fun p t => ?_⟩, hi, .inr ⟨by show (fnd (new ++ (⟨c, O, src, I⟩ :: L)) c).isSome = true; rw [hfn]; rfl, by rw [hOc]; exact hO, fun i hi2 => ?_, fun p R hR => ?_⟩⟩
      ·dsimp only
       rw [if_neg (by omega), if_pos rfl, h4 p]
      ·rw [hsc] at hi2
       obtain ⟨e1, e2, _⟩ := hs i hi2
       have hic : i < c \/ 1000000 <= i := by
         obtain ⟨m, hm⟩ := Option.isSome_iff_exists.1 e2
         obtain ⟨g1, g2⟩ := iN hm
         have := hL.lt m g1
         omega
       exact ⟨by omega, e1, by show (fnd (new ++ (⟨c, O, src, I⟩ :: L)) i).isSome = true; rw [hfl i hic]; exact e2⟩
      ·dsimp only
       rw [if_pos rfl, hOc, hIc]
       have hcons : (Mks.of (new ++ (⟨c, O, src, I⟩ :: L))).cons c p = ab5 L src p := by
         unfold Mks.cons ab5
         rw [hsc]
         cases hsr : src with
         | none => rfl
         | some i =>
           have hic : i < c \/ 1000000 <= i := by
             obtain ⟨_, e2, _⟩ := hs i hsr
             obtain ⟨m, hm⟩ := Option.isSome_iff_exists.1 e2
             obtain ⟨g1, g2⟩ := iN hm
             have := hL.lt m g1
             omega
           rw [hsr] at hfl
           show (match fnd (new ++ (⟨c, O, some i, I⟩ :: L)) i with | some m => m.O p | none => []) = (match fnd L i with | some m => m.O p | none => [])
           rw [hfl i hic]
       rw [hcons]
       exact hm p R hR
    | succ j =>
      have := h6 j o' (by simpa using hj)
      rw [show c + 1 + j = c + (j + 1) by omega] at this
      exact this.congr (fun p => if_neg (by omega)) fun p => if_neg (by omega)
theorem ab9 (L0 : List Mki) (k : Nat) {id : Nat} {l l1 l2 : List Oper} {env : Env} (hm : P.follows .mixedOrders = true) (hok : di l.toArray = true) (htl : fG l.toArray k = true) (hbl : Nat.blt l.length 1000000 = true) (hc : Cut k l l1 l2) (hL0 : MWf L0 0) (hcon : ∀ m ∈ L0, m.src = none /\ (∀ p p', m.O p = m.O p') /\ ∀ y, m.I y)
   (h : DM P w0 N l.toArray objs (fun L E => ∀ p : Pt, (∀ m ∈ L, m.I (p m.idx)) -> AL P w0 N l.toArray Q l2 (E p) ((rN L).flatMap (fun m => m.O p) ++ objs)) 0 L0 l1 (fun _ => env)) : AW P w0 N (.region id l.toArray true) Q env (L0.flatMap (fun m => m.O pt0) ++ objs) := ⟨fun a w hs => by
 obtain ⟨e1, e2, hkl⟩ := hc.eq
 have hbl : l.length < 1000000 := Nat.blt_eq ▸ hbl
 have hl1 : l1.length = k := by rw [e1, List.length_take]; omega
 obtain ⟨σ, new0, Ef, h1, hnew, h3, h4, h5, h6⟩ := abC h hL0 (by omega)
 rw [hl1, Nat.zero_add] at h5 h3
 have hnk : ∀ m ∈ new0, m.idx < k := fun m hm => by
   have := h3.lt m (List.mem_append_left _ hm)
   have := hnew m hm
   omega
 have hL0i : ∀ m ∈ L0, 1000000 <= m.idx := fun m hm => by have := hL0.lt m hm; omega
 have hmemL : ∀ m, m ∈ new0 ++ L0 -> ¬ m.idx < k -> m ∈ L0 := fun m hm hk => by
   rcases List.mem_append.1 hm with h | h
   ·exact absurd (hnk m h) hk
   ·exact h
 have hL0m : ∀ m ∈ L0, m ∈ new0 ++ L0 := fun m hm => List.mem_append_right _ hm
 generalize new0 ++ L0 = new at h1 h3 h6 hmemL hL0m
 have hop : ∀ c o, c < k -> l.toArray[c]? = some o -> OpM P w0 N l.toArray objs (Mks.of new) σ c o := fun c o hck ho => by
   have := h6 c o (by rw [e1, List.getElem?_take, if_pos hck]; simpa using ho)
   rwa [Nat.zero_add] at this
 have hrep : ∀ i, (Array.replicate l.toArray.size false).getD i false = false := fun i => by
   rcases Nat.lt_or_ge i l.toArray.size with h | h
   ·simp at h; simp [h]
   ·simp at h; simp [Array.getD_eq_getD_getElem?, Array.getElem?_eq_none, h]
 have hsrc : ∀ {c i : Nat}, (Mks.of new).src c = some i -> ∃ m ∈ new, m.idx = c /\ m.src = some i := fun {c i} hci => by
   obtain ⟨m, hm, hmi⟩ := Option.bind_eq_some_iff.1 hci
   obtain ⟨g1, g2⟩ := iN hm
   exact ⟨m, g1, g2, hmi⟩
 have hOof : ∀ {m : Mki} (_ : m ∈ new) (p : Pt), (Mks.of new).O m.idx p = m.O p := fun {m} hm p => by
   show (match fnd new m.idx with | some m => m.O p | none => []) = _
   rw [xr h3 hm]
 have hon : ∀ {m : Mki} (_ : m ∈ new), (Mks.of new).on m.idx = true := fun {m} hm => by
   show (fnd new m.idx).isSome = true
   rw [xr h3 hm]; rfl
 have hfla : ∀ (p : Pt) (l3 : List Mki), (∀ m ∈ l3, m ∈ new) -> (l3.map (·.idx)).flatMap (fun i => (Mks.of new).O i p) = l3.flatMap fun m => m.O p := fun p l3 => by
   induction l3 with
   | nil => intro _; rfl
   | cons x r ih =>
     intro hx
     rw [List.map_cons, List.flatMap_cons, List.flatMap_cons, ih fun y hy => hx y (List.mem_cons_of_mem _ hy), hOof (hx x List.mem_cons_self)]
 have hnd : (rN new).Pairwise fun a b => a.idx ≠ b.idx := (h3.pw.imp fun h => h.1).filter _
 refine wp_region_any hm (abx (objs := objs) hok (k := k) (by simp; omega) htl (M := Mks.of new) (σ := σ) (fun p p' t => by rw [h4, h4]) hop (fun c c' i hck hck' hsc hsc' => ?_) (fun j hj p p' => ?_) (ms := (rN new).map (·.idx)) (List.Pairwise.map _ (fun a b h => h) hnd) (fun i => ?_) (fun p hI => ?_) _ _ _ _ (by simp) (by simp [cO]) (fun i hi => by rw [hrep] at hi; cases hi) (fun j oj _ hx => nomatch (hrep j).symm.trans hx) ⟨pt0, L0.flatMap (fun m => m.O pt0) ++ objs, ⟨L0.map (·.idx), List.Pairwise.map _ (fun a b h => h) (hL0.pw.imp fun h => h.1), fun i => ?_, by rw [hfla pt0 L0 hL0m]⟩, ⟨hs.defers, hs.size, ?_, fun t c hc' h7 h8 v hv => ?_⟩, fun i _ hx => nomatch (hrep i).symm.trans hx⟩)
 ·obtain ⟨m, g1, g2, g3⟩ := hsrc hsc
  obtain ⟨m', g1', g2', g3'⟩ := hsrc hsc'
  refine Classical.byContradiction fun hne => ?_
  obtain ⟨x, hx, rfl⟩ := List.getElem_of_mem g1
  obtain ⟨y, hy, rfl⟩ := List.getElem_of_mem g1'
  have hne : x ≠ y := fun e => by subst e; omega
  rcases Nat.lt_or_gt_of_ne hne with hxy | hxy
  ·exact (List.pairwise_iff_getElem.1 h3.pw x y hx hy hxy).2 i g3 g3'
  ·exact (List.pairwise_iff_getElem.1 h3.pw y x hy hx hxy).2 i g3' g3
 ·show (match fnd new j with | some m => m.O p | none => []) = (match fnd new j with | some m => m.O p' | none => [])
  cases hf : fnd new j with
  | none => rfl
  | some m =>
    obtain ⟨g1, g2⟩ := iN hf
    exact (hcon m (hmemL m g1 (by simp at hj; omega))).2.1 p p'
 ·unfold acp
  rw [List.mem_map]
  constructor
  ·rintro ⟨m, hm, rfl⟩
   obtain ⟨g1, g2⟩ := List.mem_filter.1 hm
   refine ⟨fun hlt => ?_, hon g1, fun c hck hsc _ => ?_⟩
   ·have := h3.lt m g1
    simp at hlt
    omega
   ·obtain ⟨m', g1', _, g3'⟩ := hsrc hsc
    have := List.all_eq_true.1 g2 m' g1'
    simp only [g3', Nat.beq_refl, Bool.not_true] at this
    cases this
  ·rintro ⟨hik, hon2, hno⟩
   obtain ⟨m, hm⟩ := Option.isSome_iff_exists.1 (show (fnd new i).isSome = true from hon2)
   obtain ⟨g1, rfl⟩ := iN hm
   refine ⟨m, List.mem_filter.2 ⟨g1, List.all_eq_true.2 fun m' hm' => ?_⟩, rfl⟩
   cases hsr : m'.src with
   | none => rfl
   | some j =>
     have hne : j ≠ m.idx := fun e => by
       subst e
       have hlt : m'.idx < k := Classical.byContradiction fun hk => by
         have := (hcon m' (hmemL m' hm' hk)).1
         rw [hsr] at this; cases this
       exact hno m'.idx hlt (by show (fnd new m'.idx).bind _ = _; rw [xr h3 hm']; exact hsr) hlt
     simp only [yw hne, Bool.not_false]
 ·have hd2 : l.toArray.toList.drop k = l2 := by simpa using e2.symm
  rw [hd2, h5, hfla p (rN new) fun m hm => (List.mem_filter.1 hm).1]
  refine h1 p fun m hm => ?_
  by_cases hlt : m.idx < k
  ·have := hI m.idx hlt (hon hm)
   have e : (Mks.of new).I m.idx = m.I := by
     funext y
     show (match fnd new m.idx with | some m => m.I y | none => True) = _
     rw [xr h3 hm]
   rwa [e] at this
  ·exact (hcon m (hmemL m hm hlt)).2.2 _
 ·unfold acp
  rw [List.mem_map]
  constructor
  ·rintro ⟨m, hm, rfl⟩
   have := hL0i m hm
   exact ⟨fun h => by simp at h; omega, hon (hL0m m hm), fun c _ _ hx => nomatch (hrep c).symm.trans hx⟩
  ·rintro ⟨hx, hon2, _⟩
   obtain ⟨m, hm⟩ := Option.isSome_iff_exists.1 (show (fnd new i).isSome = true from hon2)
   obtain ⟨g1, rfl⟩ := iN hm
   exact ⟨m, hmemL m g1 (fun hlt => nomatch (hrep _).symm.trans (hx (by simp; omega))), rfl⟩
 ·exact hs.mem.grow ⟨hs.mem.below.os, hs.mem.below.tape, hs.mem.below.output, hs.mem.below.size, hs.mem.below.block⟩ (Nat.le_refl _) (fun _ _ => rfl)
 ·have hk0 : ∀ m, m <= c -> lk t (σ pt0 m) = lk t (σ pt0 0) := fun m => by
    induction m with
    | zero => intro _; rfl
    | succ m ih =>
      intro hm2
      have hml : m < l.length := by omega
      obtain ⟨T, _, g, _⟩ := hop m l[m] (by omega) (by simp [hml])
      rcases g with ⟨d, g1, _, g2⟩ | ⟨_, g2⟩
      ·rw [g2, bV, if_neg]
       ·exact ih (by omega)
       ·intro e
        have := h7 m (by omega) (by unfold fp; simp [hml, g1, e])
        rw [hrep] at this; cases this
      ·rw [g2]; exact ih (by omega)
  rw [hk0 c (Nat.le_refl _), h4] at hv
  have hst : lb w (L0.flatMap (fun m => m.O pt0) ++ objs) { w with drawn := w.drawn + 1 } (L0.flatMap (fun m => m.O pt0) ++ objs) := ⟨fun _ _ _ => rfl, fun _ _ h => h, fun _ _ _ rows _ _ h => ⟨⟨rows, h⟩, rfl⟩, Nat.le_refl _, fun h => h⟩
  exact (hs.env t v hv).step hst⟩
theorem mJ (k : Nat) {id : Nat} {l l1 l2 : List Oper} {env : Env} (hm : P.follows .mixedOrders = true) (hok : di l.toArray = true) (htl : fG l.toArray k = true) (hbl : Nat.blt l.length 1000000 = true) (hc : Cut k l l1 l2)
   (h : DM P w0 N l.toArray objs (fun L E => ∀ p : Pt, (∀ m ∈ L, m.I (p m.idx)) -> AL P w0 N l.toArray Q l2 (E p) ((rN L).flatMap (fun m => m.O p) ++ objs)) 0 [] l1 (fun _ => env)) : AW P w0 N (.region id l.toArray true) Q env objs :=
 ab9 [] k hm hok htl hbl hc ⟨by simp, .nil⟩ (by simp) h
end
def Yu.a : Yu -> Nat
 | .one a _ => a
 | _ => 0
def Yu.b : Yu -> Nat
 | .one _ b => b
 | _ => 0
class Enc (Y : Type) where
 enc : Y -> Yu
 dec : Yu -> Y
 eq : ∀ y, dec (enc y) = y
instance : Enc (Nat × Nat) := ⟨fun y => .one y.1 y.2, fun y => (y.a, y.b), fun _ => rfl⟩
instance : Enc (List (Nat × Nat)) := ⟨.many, fun y => match y with | .many l => l | _ => [], fun _ => rfl⟩
instance {A B : Type} [Enc A] [Enc B] : Enc (A × B) := ⟨fun y => .pair (Enc.enc y.1) (Enc.enc y.2), fun y => match y with | .pair a b => (Enc.dec a, Enc.dec b) | _ => (Enc.dec .no, Enc.dec .no), fun y => by simp [Enc.eq]⟩
section
variable {P : Program} {w0 : World} {N : Nat} {Q : Exit -> Act -> World -> Prop} {objs R : aH} {ops : Array Oper} {env : Env} {dd : Option Nat} {T0 : Nat} {pos : String} {af : Array Edge} {g : Option (Nat × Bool)}
theorem aa9 {a : Act} {w : World} {l : List Operand} (h : ∀ x ∈ l, ∀ v, ev env x = some v -> Rep w objs v (a.eval x)) {x : Operand} (hx : x ∈ l) {v : TV} (hv : ev env x = some v) : Rep w objs v (a.eval x) := h x hx v hv
theorem abE {T : TypeId} {zs : List TV} (hz : cG P T = some zs) : MkW P w0 env ⟨dd, .alloc T, T0, pos, af, g⟩ [] R (fun _ => True) (fun y => [(y.a, y.b, .box zs)]) (fun y => .mp y.a y.b 0) := mkS fun a w K Q hw _ hK =>
 xS rfl hz (by simpa using hw) fun ss b v w' h1 h2 h3 => hK (.one ss b) v w' trivial h2 h3 h1
theorem ae7 {T : TypeId} {n m : Nat} {ps : List (Nat × Operand)} {rows : List (List TV)} (hT : P.underlying T = some (.slice (P.elem T))) (hI : (cG P (P.elem T)).isSome = true) (hm : P.cellsOf (P.elem T) = m) (hm0 : Nat.blt 0 m = true) (hev : evL env ps 0 = some rows) (hn : rows.length = n) (hbig : Nat.ble (n * m) 16777216 = true) (hall : (rows.all fun r => Nat.beq r.length m) = true) :
   MkW P w0 env ⟨dd, .buildSlice T n ps.toArray, T0, pos, af, g⟩ [] R (fun _ => True) (fun y => [(y.a, y.b, .row m rows)]) (fun y => .ms y.a y.b 0 n) := mkS fun a w K Q hw hop hK => by
 obtain ⟨ss, hf⟩ := e9 ([] ++ R)
 have hm0' : 0 < m := Nat.blt_eq ▸ hm0
 have hall' : ∀ r ∈ rows, r.length = m := fun r hr => Nat.eq_of_beq_eq_true (List.all_eq_true.1 hall r hr)
 have hst := fun cs => gE hw cs (P.elem T) ss (.row m rows)
 obtain ⟨cs, h1, h2, h3⟩ := vY (o := ⟨dd, .buildSlice T n ps.toArray, T0, pos, af, g⟩) rfl hT hI hm hm0 hn hbig a hev hall' (fun p hp v hv => aa9 hop (by simpa [Op.operands] using ⟨p.1, hp⟩) hv)
 unfold Oper.wp
 rw [h1]
 have hnm : n <= maxLen := by
   have := Nat.le_of_ble_eq_true hbig
   have h4 : n * 1 <= n * m := Nat.mul_le_mul_left _ hm0'
   simp only [maxLen]; omega
 have hb0 : w.heap.size ≠ 0 := Nat.ne_of_gt (Nat.lt_of_lt_of_le hw.pos hw.below.size)
 refine hK (.one ss w.heap.size) _ _ trivial (hw.newObj hf ⟨⟨hm0', h2.2⟩, hall', .inr ⟨hw.below.size, cs, P.elem T, n, heap_alloc_new w _, h2.1, by omega, hnm, fun j t hj => ?_⟩⟩) (hst cs) (.ms _ _ _ _ _ (.mk ⟨by simp [Yu.b], fX hw #[] 0 ss _, _, _, rfl⟩ (fun m' rows' hm' => .inr ⟨hb0, 0, n, P.elem T, n * m, rfl, Nat.le_refl _, by unfold World.shape?; simp only [Yu.b]; rw [heap_alloc_new]; simp [h2.1], ?_, fun _ => by simp⟩) (fun h0 => absurd h0 hb0)))
 ·obtain ⟨v, h4, h5⟩ := h3 j t hj
  exact ⟨v, h4, h5.step (hst cs)⟩
 ·rcases List.mem_cons.1 hm' with he | hm'
  ·simp only [Prod.mk.injEq, bj.row.injEq] at he; rw [he.2.2.1]; simp
  ·exact absurd (df hw hm') (Nat.lt_irrefl _)
theorem zU {T s b len n m : Nat} {x y : Operand} {f : Nat} {rows rows2 news : List (List TV)} (hx : ev env x = some (.ms s b 0 len)) (hy : ev env y = some (.sl f m news)) (hT : kZ P T m = true) (hl : rows.length = len) (hn : news.length = n) (hbig : len + n <= 1000000000) (hrows : rows ++ news = rows2) :
   MkW P w0 env ⟨dd, .call { callee := .builtin .append, args := #[x, y], argTypes := #[T, T] }, T0, pos, af, g⟩ [(s, b, .row m rows)] R (fun _ => True) (fun y => [(s, y.b, .row m rows2)]) (fun y => .ms s y.b 0 (len + n)) := mkS fun a w K Q hw hop hK => by
 subst hrows
 subst hn
 have hu : ∀ b', Upd (s, b, .row m rows) (s, b', .row m (rows ++ news)) ([(s, b, .row m rows)] ++ R) ([(s, b', .row m (rows ++ news))] ++ R) := fun b' => .head R
 have hmem := (hu 0).mem
 have hex := aa9 hop (x := x) (by simp [Op.operands, Call.operands]) hx
 have hey := aa9 hop (x := y) (by simp [Op.operands, Call.operands]) hy
 obtain ⟨b', off', pre, v', w', hr, hE⟩ := ro (P := P) (ty := T0) hw hmem hex hey hT (by omega) rfl hbig
 have hpre : pre = [] := List.eq_nil_of_length_eq_zero (by rw [hE.prelen]; exact hE.zero rfl)
 have hoff : off' = 0 := hE.zero rfl
 subst hpre; subst hoff
 obtain ⟨⟨hm0, hci⟩, hm, _⟩ := hw.obj s b _ hmem
 obtain ⟨_, _, _, _, _, g3, g4, _⟩ := iC hey
 unfold Oper.wp
 rw [jV (o := ⟨dd, .call { callee := .builtin .append, args := #[x, y], argTypes := #[T, T] }, T0, pos, af, g⟩) rfl hr]
 have hst := iY (m := m) hw (hu b') hE.size hE.keep hE.blk (fun rows' _ => ⟨rows, rfl⟩) (fun m' rows' he => by simp only [bj.row.injEq] at he; exact he.1.symm) hE.shape (by simp only [cY, ne_eq, Prod.mk.injEq, bj.row.injEq]; omega)
 have hobj := hE.obj
 simp only [List.nil_append, List.drop_zero] at hobj
 rw [<- hl, List.take_length] at hobj
 refine hK (.one s b') v' w' trivial (hw.upd (hu b') hE.below hE.keep hE.blk hst ⟨⟨hm0, fun t ht => ?_⟩, fun r hr => ?_, hobj.imp id fun ⟨h1, cur, e, cap, h2, h3, h4, h5, h6⟩ => ⟨h1, cur, e, cap, h2, h3, h4, h5, fun j t hj => ?_⟩⟩) hst (.ms s b' _ _ _ (.mk ⟨hE.lt, fun hm' => hw.noMark (hst.mark hm'), ?_⟩ (fun m' rows' hm' => ?_) (fun h0 => ?_)))
 ·simp only [List.flatten_append, List.mem_append] at ht
  rcases ht with ht | ht
  ·exact hci t ht
  ·exact g4 t ht
 ·simp only [List.mem_append] at hr
  rcases hr with hr | hr
  ·exact hm r hr
  ·exact g3 r hr
 ·rcases hE.val with ⟨_, _, h0, h1⟩ | ⟨_, q, c, e, k, h1, _⟩
  ·exact ⟨none, 0, by rw [h0]; exact h1⟩
  ·exact ⟨_, _, h1⟩
 ·rcases (hu b').other hw.sites _ hm' with he | ⟨_, hne, _⟩
  ·simp only [Prod.mk.injEq, bj.row.injEq] at he
   obtain ⟨_, _, rfl, _⟩ := he
   exact hE.val
  ·exact absurd rfl hne
 ·rcases hE.val with ⟨_, h1, h2, h3⟩ | ⟨h1, _⟩
  ·exact ⟨h1, h2, h3⟩
  ·exact absurd h0 h1
 ·obtain ⟨u, p1, p2⟩ := h6 j t hj
  exact ⟨u, p1, p2.step hst⟩
theorem bU.mono {objs' : aH} (hs : ∀ x ∈ objs, x ∈ objs') {t t' : TV} (h : bU objs t t') : bU objs' t t' := by
 induction h with
 | same t => exact .same t
 | nils m => exact .nils m
 | ms s b off len m rows live rows' hm hle hlive hl h ih => exact .ms s b off len m rows live rows' (hs _ hm) hle hlive hl ih
 | mp s b off cells l' hm hl h ih => exact .mp s b off cells l' (hs _ hm) hl ih
 | me s b m k j rows r l' hm hr hl h ih => exact .me s b m k j rows r l' (hs _ hm) hr hl ih
 | agg l l' hl h ih => exact .agg l l' hl ih
 | sl f m rows rows' hl h ih => exact .sl f m rows rows' hl ih
 | cp f l l' hl h ih => exact .cp f l l' hl ih
 | cut t l l' h hp ih => exact .cut t l l' ih hp
theorem ca.mono {objs' : aH} (hs : ∀ x ∈ objs, x ∈ objs') {xs : List Operand} {ts : List TV} (h : ca env objs xs ts) : ca env objs' xs ts := by
 induction h with
 | nil => exact .nil
 | cons x xs t t' ts h hv hr ih => exact .cons x xs t t' ts h (hv.mono hs) ih
end
theorem afn {α : Type} {ops : Array Oper} {c : Nat} (f : Yu -> α) : aag ops c (fun p => f (p c)) := fun p p' h => by
 show f (p c) = f (p' c)
 rw [h c (.inl rfl)]
theorem sE (L : List Mki) (p : Pt) : ab5 L none p = [] := rfl
theorem ah_ {A : Prop} (h : A := by (first | exact .inl rfl | exact .inr ⟨by decide, by kernel_rfl⟩ | fail)) : A := h
theorem acV {A : Prop} (h : A := by (first | (intro p p' h; rfl) | (intro p p' h; (try dsimp only); (repeat rw [h _ ah_])) | fail)) : A := h
section
variable {P : Program} {w0 : World} {N : Nat} {Q : Exit -> Act -> World -> Prop} {objs : aH} {ops : Array Oper} {K : List Mki -> (Pt -> Env) -> Prop} {c : Nat} {L : List Mki} {rest : List Oper} {E : Pt -> Env} {d T0 : Nat} {pos : String} {af : Array Edge}
theorem m_q {op : Op} {T : Pt -> TV} (hy : ∀ p R, (∀ x ∈ objs, x ∈ R) -> Yd P w0 (E p) R ⟨some d, op, T0, pos, af, none⟩ (T p)) (hN : Nat.blt d N = true) (hi : aag ops c T) (h : DM P w0 N ops objs K (c + 1) L rest (fun p => (d, T p) :: E p)) : DM P w0 N ops objs K c L (⟨some d, op, T0, pos, af, none⟩ :: rest) E :=
 .run c L _ rest E d T rfl hN rfl hi (fun p R hR => (hy p R hR).go) h
theorem qL {T : TypeId} {ps : List (Nat × Operand)} {zs : List TV} {l : Pt -> List TV} (he : zT T = zs) (hb : ∀ p, TB P (E p) T ps zs (l p)) (hN : Nat.blt d N = true) (hz : cG P T = some (zT T)) (hp : (gK P T).isSome = true) (hi : aag ops c l)
   (h : DM P w0 N ops objs K (c + 1) L rest (fun p => (d, .agg (l p)) :: E p)) : DM P w0 N ops objs K c L (⟨some d, .build T ps.toArray, T0, pos, af, none⟩ :: rest) E :=
 .run c L _ rest E d (fun p => .agg (l p)) rfl hN rfl (fun p p' h => by show TV.agg (l p) = _; rw [hi p p' h]) (fun p R hR => wA rfl hz hp (by rw [he]; exact hb p)) h
theorem qI {T : TypeId} {zs : List TV} (hN : Nat.blt d N = true) (he : zT T = zs) (hz : cG P T = some zs)
   (h : DM P w0 N ops objs K (c + 1) (⟨c, fun p => [((p c).a, (p c).b, .box zs)], none, fun _ => True⟩ :: L) rest (fun p => (d, .mp (p c).a (p c).b 0) :: E p)) : DM P w0 N ops objs K c L (⟨some d, .alloc T, T0, pos, af, none⟩ :: rest) E :=
 .make c L _ rest E d (fun p => [((p c).a, (p c).b, .box zs)]) none (fun _ => True) (fun p => .mp (p c).a (p c).b 0) rfl hN rfl (afn fun y => TV.mp y.a y.b 0) (afn fun y => [(y.a, y.b, bj.box zs)]) (fun _ h => by cases h) (fun p R hR => by
   have := abE (P := P) (w0 := w0) (env := E p) (R := R) (dd := some d) (T0 := T0) (pos := pos) (af := af) (g := none) hz
   simpa only [Pt.put_eq, sE] using this) h
theorem aeO {T n m : Nat} {ps : List (Nat × Operand)} {rows : List (List TV)} (hev : ∀ p, evL (E p) ps 0 = some rows) (hN : Nat.blt d N = true) (hT : P.underlying T = some (.slice (P.elem T))) (hI : (cG P (P.elem T)).isSome = true) (hs : esT T = some m) (hm : P.cellsOf (P.elem T) = m) (hm0 : Nat.blt 0 m = true) (hn : rows.length = n) (hbig : Nat.ble (n * m) 16777216 = true) (hall : (rows.all fun r => Nat.beq r.length m) = true)
   (h : DM P w0 N ops objs K (c + 1) (⟨c, fun p => [((p c).a, (p c).b, .row m rows)], none, fun _ => True⟩ :: L) rest (fun p => (d, .ms (p c).a (p c).b 0 n) :: E p)) : DM P w0 N ops objs K c L (⟨some d, .buildSlice T n ps.toArray, T0, pos, af, none⟩ :: rest) E :=
 .make c L _ rest E d (fun p => [((p c).a, (p c).b, .row m rows)]) none (fun _ => True) (fun p => .ms (p c).a (p c).b 0 n) rfl hN rfl (afn fun y => TV.ms y.a y.b 0 n) (afn fun y => [(y.a, y.b, bj.row m rows)]) (fun _ h => by cases h) (fun p R hR => by
   have := ae7 (P := P) (w0 := w0) (env := E p) (R := R) (dd := some d) (T0 := T0) (pos := pos) (af := af) (g := none) hT hI hm hm0 (hev p) hn hbig hall
   simpa only [Pt.put_eq, sE] using this) h
theorem afs {T i len n m f : Nat} {x y : Operand} {rows rows2 news : List (List TV)} (hx : ∀ p, ev (E p) x = some (.ms (p i).a (p i).b 0 len)) (hy : ∀ p, ev (E p) y = some (.sl f m news)) (hN : Nat.blt d N = true) (hT : kZ P T m = true) (hsr : ∀ p, ab5 L (some i) p = [((p i).a, (p i).b, .row m rows)]) (hl : rows.length = len) (hn : news.length = n) (hbig : len + n <= 1000000000) (hrows : rows ++ news = rows2)
   (hah : i ≠ c /\ sR ops c i) (hfn : (fnd L i).isSome = true) (huse : ∀ m ∈ L, m.src ≠ some i)
   (h : DM P w0 N ops objs K (c + 1) (⟨c, fun p => [((p i).a, (p c).b, .row m rows2)], some i, fun _ => True⟩ :: L) rest (fun p => (d, .ms (p i).a (p c).b 0 (len + n)) :: E p)) : DM P w0 N ops objs K c L (⟨some d, .call { callee := .builtin .append, args := #[x, y], argTypes := #[T, T] }, T0, pos, af, none⟩ :: rest) E :=
 .make c L _ rest E d (fun p => [((p i).a, (p c).b, .row m rows2)]) (some i) (fun _ => True) (fun p => .ms (p i).a (p c).b 0 (len + n)) rfl hN rfl (fun p p' h => by show TV.ms (p i).a (p c).b 0 _ = TV.ms (p' i).a (p' c).b 0 _; rw [h c (.inl rfl), h i hah.2]) (fun p p' h => by show [((p i).a, (p c).b, bj.row m rows2)] = [((p' i).a, (p' c).b, bj.row m rows2)]; rw [h c (.inl rfl), h i hah.2])
   (fun j hj => by cases hj; exact ⟨fun _ => hah.2, hfn, huse⟩) (fun p R hR => by
   have := zU (P := P) (w0 := w0) (env := E p) (R := R) (dd := some d) (T0 := T0) (pos := pos) (af := af) (g := none) (hx p) (hy p) hT hl hn hbig hrows
   rw [hsr p]
   simpa only [Pt.put_eq, Pt.put_ne hah.1] using this) h
theorem acZ {T i n m f : Nat} {x y : Operand} {news : List (List TV)} (hx : ∀ p, ev (E p) x = some (.ms (p i).a (p i).b 0 0)) (hy : ∀ p, ev (E p) y = some (.sl f m news)) (hN : Nat.blt d N = true) (hT : kZ P T m = true) (hsr : ∀ p, ab5 L (some i) p = [((p i).a, (p i).b, .row m [])]) (hn : news.length = n) (hbig : n <= 1000000000)
   (hah : i ≠ c /\ sR ops c i) (hfn : (fnd L i).isSome = true) (huse : ∀ m ∈ L, m.src ≠ some i)
   (h : DM P w0 N ops objs K (c + 1) (⟨c, fun p => [((p i).a, (p c).b, .row m news)], some i, fun _ => True⟩ :: L) rest (fun p => (d, .ms (p i).a (p c).b 0 n) :: E p)) : DM P w0 N ops objs K c L (⟨some d, .call { callee := .builtin .append, args := #[x, y], argTypes := #[T, T] }, T0, pos, af, none⟩ :: rest) E :=
 afs hx hy hN hT hsr rfl hn (by omega) (List.nil_append _) hah hfn huse (by simpa only [Nat.zero_add] using h)
end
theorem sW {P : Program} {w0 : World} {N : Nat} {Q : Exit -> Act -> World -> Prop} {env : Env} {objs : aH} {ops : Array Oper} {rest : List Oper} {d T0 : Nat} {pos : String} {af : Array Edge} {g : Option (Nat × Bool)} {objsOf : Nat -> aH} {T s b n m : Nat} {x y : Operand} {f : Nat} {news : List (List TV)} (hN : Nat.blt d N = true) (hx : ev env x = some (.ms s b 0 0)) (hy : ev env y = some (.sl f m news)) (hT : kZ P T m = true) (hm : (s, b, bj.row m []) ∈ objs) (hn : news.length = n) (hbig : n <= 1000000000) (hu : ∀ b2, Upd (s, b, .row m []) (s, b2, .row m news) objs (objsOf b2)) (h : ∀ b2, AL P w0 N ops Q rest ((d, .ms s b2 0 n) :: env) (objsOf b2)) : AO P w0 N ops Q ⟨some d, .call { callee := .builtin .append, args := #[x, y], argTypes := #[T, T] }, T0, pos, af, g⟩ rest env objs :=
 ck hN hx hy hT hm rfl hn (by omega) (List.nil_append _) hu (fun b2 => by simpa only [Nat.zero_add] using h b2)
theorem ym_ {A : Prop} (h : A := by (first | (intro p R hR; (try dsimp only); (first | ((with_reducible first | apply aay | apply sp | apply gB); rfl) | ((with_reducible apply xN); rfl; (with_reducible rfl); rfl) | ((with_reducible apply xJ); rfl; (with_reducible rfl); rfl) | ((with_reducible apply tp); rfl; kernel_rfl; rfl; (exact hR _ mm_); (first | (with_reducible assumption) | (refine aM ?_; omega) | (refine ew ?_; simp only [List.length_set, List.length_map]; omega) | exact rfl | assumption); rfl) | ((with_reducible apply nj); rfl; kernel_rfl; rfl; rfl) | ((with_reducible apply sZ); rfl; kernel_rfl; rfl; (exact hR _ mm_); rfl) | ((with_reducible apply jU); rfl; kernel_rfl; rfl) | ((with_reducible apply jL); rfl; rfl; kernel_rfl; kernel_rfl; kernel_rfl; rfl; (first | (with_reducible first | exact rfl | exact pb | exact pl | exact pd | exact pe) | exact rfl | exact cw (by omega) | omega); (first | (with_reducible assumption) | (refine aM ?_; omega) | (refine ew ?_; simp only [List.length_set, List.length_map]; omega) | exact rfl | assumption)) | ((with_reducible apply jw); rfl; rfl; (exact hR _ mm_); kernel_rfl; kernel_rfl; kernel_rfl; (first | (with_reducible first | exact rfl | exact pb | exact pl | exact pd | exact pe) | exact rfl | exact cw (by omega) | omega); (first | assumption | omega); (first | with_reducible exact Nat.zero_add _ | rfl)) | ((with_reducible apply uT); rfl; kernel_rfl) | ((with_reducible apply sm); rfl; kernel_rfl; (first | exact List.length_map _ | rfl)) | ((with_reducible apply wP); rfl; kernel_rfl) | ((with_reducible apply pP); rfl; kernel_rfl) | ((with_reducible first | apply adR | apply adG | apply adr | apply adX | apply adJ | apply adi | apply nY | apply af8 | apply aeE); rfl; rfl) | ((with_reducible first | apply aeb | apply adA | apply adQ); rfl; rfl; (first | ((with_reducible first | refine adf ?_ | refine acP ?_ | refine ade ?_ | refine sL ?_ | refine IntWalk.i64_in _ ?_ | refine adb _ ?_); omega) | ((with_reducible refine IntWalk.i64_in _ ?_); omega) | (with_reducible assumption) | exact rfl)) | ((with_reducible apply mX); rfl; rfl; kernel_rfl; (first | (with_reducible first | exact rfl | exact pb | exact pl | exact pd | exact pe) | exact rfl | exact cw (by omega) | omega); (first | assumption | omega)) | ((with_reducible apply aaI); rfl; (with_reducible rfl)) | ((with_reducible apply abj); rfl; (with_reducible rfl)) | ((with_reducible apply afa); rfl; (with_reducible rfl)) | ((with_reducible apply zu); rfl; (with_reducible rfl)) | ((with_reducible first | apply abe | apply aac); rfl; rfl) | ((with_reducible apply lp); rfl; rfl; kernel_rfl; kernel_rfl; (first | ((with_reducible first | refine adf ?_ | refine acP ?_ | refine ade ?_ | refine sL ?_ | refine IntWalk.i64_in _ ?_ | refine adb _ ?_); omega) | ((with_reducible refine IntWalk.i64_in _ ?_); omega) | (with_reducible assumption) | exact rfl)) | ((with_reducible apply k8); rfl; (exact hR _ mm_)) | ((with_reducible apply kA); rfl; (exact hR _ mm_); (first | (with_reducible assumption) | (refine aM ?_; omega) | (refine ew ?_; simp only [List.length_set, List.length_map]; omega) | exact rfl | assumption)) | ((with_reducible apply j9); rfl; kernel_rfl; kernel_rfl; kernel_rfl; rfl; (exact hR _ mm_); (first | (with_reducible assumption) | (refine aM ?_; omega) | (refine ew ?_; simp only [List.length_set, List.length_map]; omega) | exact rfl | assumption); (first | exact .zero _ | exact .succ _ _ _ _ (.zero _) | exact .succ _ _ _ _ (.succ _ _ _ _ (.zero _)) | exact .succ _ _ _ _ (.succ _ _ _ _ (.succ _ _ _ _ (.zero _))) | exact .succ _ _ _ _ (.succ _ _ _ _ (.succ _ _ _ _ (.succ _ _ _ _ (.zero _)))) | (repeat (first | exact .zero _ | apply eg.succ)))) | ((with_reducible apply gC); rfl; kernel_rfl; kernel_rfl; kernel_rfl; rfl; (first | exact .zero _ | exact .succ _ _ _ _ (.zero _) | exact .succ _ _ _ _ (.succ _ _ _ _ (.zero _)) | exact .succ _ _ _ _ (.succ _ _ _ _ (.succ _ _ _ _ (.zero _))) | exact .succ _ _ _ _ (.succ _ _ _ _ (.succ _ _ _ _ (.succ _ _ _ _ (.zero _)))) | (repeat (first | exact .zero _ | apply eg.succ)))) | ((with_reducible apply kh); rfl; kernel_rfl; kernel_rfl; kernel_rfl; rfl; (exact hR _ mm_); (first | exact .zero _ | exact .succ _ _ _ _ (.zero _) | exact .succ _ _ _ _ (.succ _ _ _ _ (.zero _)) | exact .succ _ _ _ _ (.succ _ _ _ _ (.succ _ _ _ _ (.zero _))) | exact .succ _ _ _ _ (.succ _ _ _ _ (.succ _ _ _ _ (.succ _ _ _ _ (.zero _)))) | (repeat (first | exact .zero _ | apply eg.succ)))) | ((with_reducible apply aa2); rfl; kernel_rfl; kernel_rfl; rfl) | ((with_reducible apply p7); rfl; rfl; rfl; kernel_rfl; (first | (with_reducible first | exact rfl | exact pb | exact pl | exact pd | exact pe) | exact rfl | exact cw (by omega) | omega); (first | (with_reducible first | exact rfl | exact pb | exact pl | exact pd | exact pe) | exact rfl | exact cw (by omega) | omega); (first | assumption | omega); (first | assumption | omega)) | ((with_reducible apply sI); rfl; rfl; kernel_rfl; (first | (with_reducible first | exact rfl | exact pb | exact pl | exact pd | exact pe) | exact rfl | exact cw (by omega) | omega); (first | assumption | omega)) | ((with_reducible apply te); rfl; rfl; kernel_rfl; (first | (with_reducible first | exact rfl | exact pb | exact pl | exact pd | exact pe) | exact rfl | exact cw (by omega) | omega); (first | assumption | omega)) | ((with_reducible apply ae5); rfl; rfl; omega; (first | ((with_reducible first | refine adf ?_ | refine acP ?_ | refine ade ?_ | refine sL ?_ | refine IntWalk.i64_in _ ?_ | refine adb _ ?_); omega) | ((with_reducible refine IntWalk.i64_in _ ?_); omega) | (with_reducible assumption) | exact rfl)) | ((with_reducible apply aeK); rfl; rfl; omega; exact rfl) | ((with_reducible apply aaf); rfl; rfl; (first | assumption | omega | (simp only [ByteArray.size_append, sJ, List.size_toArray, List.length_cons, List.length_nil]; omega))) | ((with_reducible first | apply aba | apply z7); rfl; rfl; kernel_rfl) | ((with_reducible apply afe); rfl; rfl; omega) | ((with_reducible first | apply abm | apply zF); rfl; rfl; kernel_rfl))) | fail)) : A := h
section
variable {P : Program} {w0 : World} {N : Nat} {Q : Exit -> Act -> World -> Prop} {env : Env} {objs : aH} {ops : Array Oper} {rest : List Oper}
def aeY (P : Program) (T : TypeId) : Bool := match P.underlying T with
 | some (.slice _) => true
 | _ => false
theorem aei {d : Nat} {T T0 t2 : TypeId} {pos : String} {af : Array Edge} {g : Option (Nat × Bool)} {x : Operand} {f m : Nat} {rows : List (List TV)} (hN : Nat.blt d N = true) (hx : ev env x = some (.sl f m rows)) (hm : Nat.blt 0 m = true) (hT : aeY P T = true)
   (h : ∀ b : Bool, (b = true -> rows = []) -> AL P w0 N ops Q rest ((d, .bool b) :: env) objs) : AO P w0 N ops Q ⟨some d, .binOp .eql T x (.const (.slice none 0 0)) t2, T0, pos, af, g⟩ rest env objs :=
 ⟨fun a w K hs hK => by
   have hr := ei hs hx
   obtain ⟨A, c, hA, hn⟩ : ∃ A c, a.eval x = .slice A rows.length c /\ (A = none -> rows = []) := by
     generalize a.eval x = v at hr
     cases hr with
     | sl _ _ _ A c h1 h2 hm2 hi gg hc hrr =>
       refine ⟨A, c, rfl, fun hA => ?_⟩
       cases rows with
       | nil => rfl
       | cons r rs =>
         exfalso
         have hl := hm2 r List.mem_cons_self
         have hm0 : 0 < m := Nat.le_of_ble_eq_true hm
         cases r with
         | nil => simp at hl; omega
         | cons t ts =>
           obtain ⟨b, o, hA2, _⟩ := hc 0 t (by simp)
           rw [hA] at hA2; cases hA2
   unfold aeY at hT
   split at hT
   ·rename_i e hu
    have h1 : (execOp a.eval ⟨some d, .binOp .eql T x (.const (.slice none 0 0)) t2, T0, pos, af, g⟩).run P w = .ok (.value (.bool A.isNone)) w := by
      simp only [execOp, hA, show a.eval (.const (.slice none 0 0)) = .slice none 0 0 from rfl]
      refine cm ?_
      simp [Sem.run_bind, eqGuard, Sem.run_pure, Result.andThen_ok, run_eql_slice_nil w T e A rows.length c hu]
    unfold Oper.wp
    rw [h1]
    exact hK _ _ ((h A.isNone fun hb => hn (by simpa using hb)).run _ _ (hs.put hN (.bool _) hs.mem ⟨fun _ _ _ => rfl, fun _ _ h => h, fun _ _ _ rows _ _ h => ⟨⟨rows, h⟩, rfl⟩, Nat.le_refl _, id⟩))
   ·cases hT⟩
theorem aaQ {objs' : aH} {o : Oper} {t s b m n : Nat} {rows : List (List TV)} (hx : lk t env = some (.ms s b 0 n)) (hn : rows.length = n) (hd : zr s b (.row m rows) objs objs') (h : AO P w0 N ops Q o rest ((t, .sl w0.heap.size m rows) :: env) objs') : AO P w0 N ops Q o rest env objs := ⟨fun a w K hs hK => h.run a w K (hs.freeze hx hn hd) hK⟩
end
instance : Enc Nat := ⟨fun y => .one y 0, fun y => y.a, fun _ => rfl⟩
instance : Enc Unit := ⟨fun _ => .no, fun _ => (), fun _ => rfl⟩
section
variable {P : Program} {w0 : World} {N : Nat} {Q : Exit -> Act -> World -> Prop} {objs : aH} {ops : Array Oper} {K : List Mki -> (Pt -> Env) -> Prop} {c : Nat} {L : List Mki} {rest : List Oper} {E : Pt -> Env} {d T0 : Nat} {pos : String} {af : Array Edge}
end
section
variable {P : Program} {w0 : World} {N : Nat} {Q : Exit -> Act -> World -> Prop} {env : Env} {objs : aH}
end
section
variable {P : Program} {w0 : World} {N : Nat} {Q : Exit -> Act -> World -> Prop} {env : Env} {objs objs' : aH} {o : Oper}
end
inductive Rc (B : Nat) (L L' : aH) : TV -> TV -> Prop
 | same (t : TV) : Rc B L L' t t
 | fz (s b n m : Nat) (rows : List (List TV)) (hm : (s, b, bj.row m rows) ∈ L) (hn : rows.length = n) (hna : ∀ x ∈ L', x.2.1 = b -> b = 0) : Rc B L L' (.ms s b 0 n) (.sl B m rows)
section
variable {P : Program} {w0 : World} {N : Nat} {Q : Exit -> Act -> World -> Prop} {env : Env} {objs objs' : aH} {o : Oper}
theorem Sim.blocks {a : Act} {w : World} {x y : Nat × Nat × bj} {L : aH} (h : Sim w0 N env (x :: y :: L) a w) : ∀ z ∈ x :: L, z.2.1 = y.2.1 -> y.2.1 = 0 := fun z hz he => by
 obtain ⟨h1, h2⟩ := List.pairwise_cons.1 h.mem.sites
 obtain ⟨h3, _⟩ := List.pairwise_cons.1 h2
 rcases List.mem_cons.1 hz with rfl | hz
 ·rcases (h1 y List.mem_cons_self).2 with h4 | h4
  ·exact absurd he h4
  ·rw [<- he]; exact h4
 ·rcases (h3 z hz).2 with h4 | h4
  ·exact absurd he.symm h4
  ·exact h4
theorem dF {bl : Bool} {pr sl : Int} {s b n : Nat} {rows : List (List TV)} (hm : (s, b, bj.row 4 rows) ∈ objs) (hl : rows.length = n) : bU objs (.agg [.bool bl, .int .i64 pr, .int .i64 sl, .ms s b 0 n]) (.agg [.bool bl, .int .i64 pr, .int .i64 sl, .sl 0 4 rows]) :=
 .agg _ _ rfl fun j t t' h1 h2 => by
   match j, h1, h2 with
   | 0, h1, h2 => cases h1; cases h2; exact .same _
   | 1, h1, h2 => cases h1; cases h2; exact .same _
   | 2, h1, h2 => cases h1; cases h2; exact .same _
   | 3, h1, h2 => cases h1; cases h2; exact .msAll hm hl
   | j + 4, h1, h2 => simp at h1
end
section
variable {P : Program} {w0 : World} {N : Nat} {Q : Exit -> Act -> World -> Prop} {objs R : aH} {ops : Array Oper} {env : Env} {T0 : Nat} {pos : String} {af : Array Edge} {g : Option (Nat × Bool)}
end
section
variable {P : Program} {w0 : World} {N : Nat} {Q : Exit -> Act -> World -> Prop} {objs : aH} {ops : Array Oper} {K : List Mki -> (Pt -> Env) -> Prop} {c : Nat} {L : List Mki} {rest : List Oper} {E : Pt -> Env} {T0 : Nat} {pos : String} {af : Array Edge}
end
section
variable {P : Program} {w0 : World} {N : Nat} {Q : Exit -> Act -> World -> Prop} {objs R : aH} {ops : Array Oper} {env : Env} {dd : Option Nat} {T0 : Nat} {pos : String} {af : Array Edge} {g : Option (Nat × Bool)}
end
section
variable {P : Program} {w0 : World} {N : Nat} {objs : aH} {ops : Array Oper} {K : List Mki -> (Pt -> Env) -> Prop} {c : Nat} {L : List Mki} {rest : List Oper} {E : Pt -> Env} {d T0 : Nat} {pos : String} {af : Array Edge}
end
section
variable {P : Program} {w0 : World} {N : Nat} {Q : Exit -> Act -> World -> Prop} {env : Env} {objs objs' : aH}
end
end Go.Proofs.YtofnnnpahglfdaaGreatDoor
