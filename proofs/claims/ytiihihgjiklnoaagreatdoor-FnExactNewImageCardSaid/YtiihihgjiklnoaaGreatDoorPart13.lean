/- Part 13 of the proof: the texts EngR2, EngU, EngV. -/
import Derived.Test.YtiihihgjiklnoaaGreatDoorPart12
/- The abstract walk, part 11: regions whose order is open but for their end: what stands last depends on all that stands ahead of it. -/
namespace Go.Proofs.YtiihihgjiklnoaaGreatDoor
open Go Go.RowKit
/-- From k on each operation comes behind all that are written ahead of it. -/
def tailOk (ops : Array Oper) (k : Nat) : Bool :=
  let B := Region.before ops
  (List.range ops.size).all fun j => Nat.blt j k || (List.range j).all fun i => (B.getD j 0).testBit i
section
variable {P : Program} {w0 : World} {N : Nat} {Q : Exit → Act → World → Prop} {objs : Objs} {ops : Array Oper} {env : Env}
theorem tailOk_spec {k : Nat} (h : tailOk ops k = true) {j i : Nat} (hj : j < ops.size) (hk : k ≤ j) (hi : i < j) : ((Region.before ops).getD j 0).testBit i = true := by
  unfold tailOk at h
  have h1 := List.all_eq_true.1 h j (List.mem_range.2 hj)
  simp only [Bool.or_eq_true] at h1
  rcases h1 with h1 | h1
  · rw [Nat.blt_eq] at h1; omega
  · exact List.all_eq_true.1 h1 i (List.mem_range.2 hi)

/-- The end, one operation behind the other. -/
theorem any_of_seq (hok : drawOk ops = true) {k : Nat} (htl : tailOk ops k = true) : ∀ (n m : Nat), m + n = ops.size → k ≤ m → ∀ (fuel : Nat) (listed : Array Bool) (a : Act) (w : World), listed.size = ops.size → n ≤ fuel → (∀ i, i < ops.size → (listed.getD i false = true ↔ i < m)) →
    wpList P ops Q (ops.toList.drop m) a w → wpAny P .any ops Q fuel listed a w := by
  intro n
  induction n with
  | zero =>
    intro m hm hkm fuel listed a w hsz hf hl h
    rw [List.drop_of_length_le (by simp; omega)] at h
    have hr : Region.ready .any ops listed = [] := by
      cases hrd : Region.ready .any ops listed with
      | nil => rfl
      | cons j r =>
        exfalso
        have hj : j ∈ Region.ready .any ops listed := by rw [hrd]; exact List.mem_cons_self
        obtain ⟨h0, o, ho, _⟩ := mem_ready.1 hj
        have hjl : j < ops.size := (Array.getElem?_eq_some_iff.1 ho).1
        have := (hl j hjl).2 (by omega)
        rw [Array.getD_eq_getD_getElem?, Array.getElem?_eq_getElem (by omega)] at this h0
        simp only [Option.getD_some] at this h0
        rw [this] at h0; cases h0
    have hq : Q .normal a w := h
    cases fuel with
    | zero => exact ⟨hr, hq⟩
    | succ fuel => exact ⟨fun _ => hq, fun i hi => by rw [hr] at hi; cases hi⟩
  | succ n ih =>
    intro m hm hkm fuel listed a w hsz hf hl h
    cases fuel with
    | zero => omega
    | succ fuel =>
    have hmlt : m < ops.size := by omega
    have hom : ops[m]? = some ops[m] := by simp [hmlt]
    have hX : ∀ i, i < ops.size → i < m → listed.getD i false = true := fun i hi him => (hl i hi).2 him
    have hready : m ∈ Region.ready .any ops listed := mem_ready.2 ⟨by
      have h1 : listed.getD m false ≠ true := fun h => by have := (hl m hmlt).1 h; omega
      rw [Array.getD_eq_getD_getElem?, Array.getElem?_eq_getElem (by omega)] at h1 ⊢
      simpa using h1, _, hom, fun e he hb => by
      have := (drawOk_spec hok hom).1 e he hb
      exact hX e.on (by omega) this⟩
    refine ⟨fun hr => (by rw [hr] at hready; cases hready), fun i hi => ?_⟩
    obtain ⟨h0, o, ho, hed⟩ := mem_ready.1 hi
    have hil : i < ops.size := (Array.getElem?_eq_some_iff.1 ho).1
    have hnl : ¬ listed.getD i false = true := by
      rw [Array.getD_eq_getD_getElem?, Array.getElem?_eq_getElem (by omega)] at h0 ⊢
      simp only [Option.getD_some] at h0 ⊢
      rw [h0]; simp
    have him : m ≤ i := Nat.le_of_not_lt fun hlt => hnl (hX i hil hlt)
    have hie : i = m := by
      rcases Nat.eq_or_lt_of_le him with e | hlt
      · exact e.symm
      · exfalso
        have hb := tailOk_spec htl hil (by omega) hlt
        obtain ⟨e, he, hb2, h3⟩ := ((drawOk_spec hok ho).2 m _ hlt hom).1 hb
        have hel := hed e he hb2
        have hes := (drawOk_spec hok ho).1 e he hb2
        have := (hl e.on (by omega)).1 hel
        omega
    subst hie
    rw [hom] at ho
    cases ho
    have hdrop : ops.toList.drop i = ops[i] :: ops.toList.drop (i + 1) := by
      rw [List.drop_eq_getElem_cons (by simpa using hmlt)]; simp
    rw [hdrop] at h
    have hnext : ∀ a w, wpList P ops Q (ops.toList.drop (i + 1)) a w → wpAny P .any ops Q fuel (listed.setIfInBounds i true) a w := fun a w hw => by
      refine ih (i + 1) (by omega) (by omega) fuel _ a w (by simpa using hsz) (by omega) (fun j hj => ?_) hw
      by_cases hji : j = i
      · subst hji; simp [Array.getD_eq_getD_getElem?, hsz, hj]
      · rw [getD_set_ne false (Ne.symm hji), hl j hj]; omega
    unfold wpOp
    rw [hom]
    dsimp only
    unfold wpList at h
    split at h
    · rename_i hw
      rw [if_pos hw]
      exact h.imp (Oper.wp_mono hnext) id
    · rename_i hw
      rw [if_neg hw]
      exact hnext _ _ h

/-- The state when X (of the first k) has been carried out. -/
structure JY (w0 : World) (N : Nat) (ops : Array Oper) (objs : Objs) (σ : Nat → Env) (k : Nat) (X : Nat → Prop) (a : Act) (w : World) : Prop where
  defers : a.defers = []
  size : a.tmps.size = N
  mem : SimW w0 objs w
  cut : ∀ t c, c ≤ k → (∀ i, i < c → Writes ops i t → X i) → (∀ i, c ≤ i → i < k → Writes ops i t → ¬ X i) → ∀ v, lk t (σ c) = some v → Rep w objs v (a.tmps.getD t undef)
theorem jy_read (hok : drawOk ops = true) {k : Nat} (hk : k ≤ ops.size) {σ : Nat → Env} {X : Nat → Prop} {a : Act} {w : World} (hJ : JY w0 N ops objs σ k X a w) (hX : Closed ops X) (_hXk : ∀ i, X i → i < k) {i : Nat} {o : Oper} (hi : ops[i]? = some o) (hik : i < k) (hni : ¬ X i) (hX' : Closed ops fun k => k = i ∨ X k) {t : Nat} (ht : t ∈ o.looksAt ops) {v : TV} (hv : lk t (σ i) = some v) : Rep w objs v (a.tmps.getD t undef) := by
  refine hJ.cut t i (Nat.le_of_lt hik) (fun k hk hw => ?_) (fun k hk hkk hw hx => ?_) v hv
  · obtain ⟨ok, h1, h2⟩ := Option.bind_eq_some_iff.1 hw
    have := apart_or hok h1 hi hk (not_apart_read h2 ht) hX' (.inl rfl)
    rcases this with h | h
    · omega
    · exact h
  · obtain ⟨ok, h1, h2⟩ := Option.bind_eq_some_iff.1 hw
    rcases Nat.lt_or_ge i k with h | h
    · exact hni (apart_or hok hi h1 h (not_apart_write ht h2) hX hx)
    · exact hni ((Nat.le_antisymm h hk) ▸ hx)
theorem jy_step (hok : drawOk ops = true) {k : Nat} (hk : k ≤ ops.size) {σ : Nat → Env} {X : Nat → Prop} {a : Act} {w w' : World} (hJ : JY w0 N ops objs σ k X a w) (hX : Closed ops X) (_hXk : ∀ i, X i → i < k) {i d : Nat} {o : Oper} {tv : TV} {v : Value} (hi : ops[i]? = some o) (hik : i < k) (hni : ¬ X i) (hd : o.dst = some d) (hdN : d < N)
    (hσ : ∀ i o, i < k → ops[i]? = some o → StepAt P w0 N ops objs o (σ i) (σ (i + 1))) (hσi : ∀ t, lk t (σ (i + 1)) = lk t ((d, tv) :: σ i)) (hr : Rep w' objs tv v) (hw : SimW w0 objs w') (hst : Step w objs w' objs) : JY w0 N ops objs σ k (fun k => k = i ∨ X k) (a.put (some d) v) w' := by
  refine ⟨hJ.defers, by simp [Act.put, hJ.size], hw, fun t c hc h1 h2 u hu => ?_⟩
  show Rep w' objs u ((a.tmps.setIfInBounds d v).getD t undef)
  rw [getD_set (by rw [hJ.size]; exact hdN)]
  by_cases hdt : d = t
  · subst hdt
    rw [if_pos rfl]
    have hwi : Writes ops i d := by unfold Writes; rw [hi]; exact hd
    have hic : i < c := Nat.lt_of_not_le fun h => h2 i h hik hwi (.inl rfl)
    have hlast : ∀ m, i + 1 ≤ m → m ≤ c → lk d (σ m) = some tv := fun m => by
      induction m with
      | zero => intro h; omega
      | succ m ih =>
        intro hm1 hm2
        rcases Nat.eq_or_lt_of_le hm1 with h | h
        · have : m = i := by omega
          subst this; rw [hσi, lk_cons, if_pos rfl]
        · have hm : m < ops.size := by omega
          have hom : ops[m]? = some ops[m] := by simp [hm]
          obtain ⟨dm, tm, e1, _, e2, _⟩ := hσ m _ (by omega) hom
          rw [e2, lk_cons, if_neg]
          · exact ih (by omega) (by omega)
          · intro e
            subst e
            have hwm : Writes ops m dm := by unfold Writes; rw [hom]; exact e1
            rcases h1 m (by omega) hwm with h3 | h3
            · omega
            · exact hni (apart_or hok hi hom (by omega) (not_apart_both hd e1) hX h3)
    rw [hlast c hic (Nat.le_refl _)] at hu
    simp only [Option.some.injEq] at hu
    subst hu; exact hr
  · rw [if_neg hdt]
    refine (hJ.cut t c hc (fun m hm hwm => ?_) (fun m hm hmk hwm hx => h2 m hm hmk hwm (.inr hx)) u hu).step hst
    rcases h1 m hm hwm with h3 | h3
    · subst h3
      unfold Writes at hwm
      rw [hi] at hwm
      simp only [Option.bind_some, hd, Option.some.injEq] at hwm
      exact absurd hwm hdt
    · exact h3
theorem seq_start (hok : drawOk ops = true) {k : Nat} (hk : k ≤ ops.size) (htl : tailOk ops k = true) {σ : Nat → Env} (hQ : AL P w0 N ops Q (ops.toList.drop k) (σ k) objs) {fuel : Nat} {listed : Array Bool} {a : Act} {w : World} (hsz : listed.size = ops.size) (hun : unlisted listed ≤ fuel) (hXk : ∀ i, listed.getD i false = true → i < k)
    (hall : ∀ j, j < k → listed.getD j false = true) (hJ : JY w0 N ops objs σ k (fun i => listed.getD i false = true) a w) : wpAny P .any ops Q fuel listed a w := by
  refine any_of_seq hok htl (ops.size - k) k (by omega) (Nat.le_refl _) fuel listed a w hsz ?_ (fun i hi => ⟨hXk i, hall i⟩) (hQ.run a w ⟨hJ.defers, hJ.size, hJ.mem, fun t v hv => hJ.cut t k (Nat.le_refl _) (fun i hi _ => hall i hi) (fun i hi hik => by omega) v hv⟩)
  unfold unlisted at hun
  rw [← List.take_append_drop k listed.toList, List.filter_append, List.length_append] at hun
  have hd : (listed.toList.drop k).filter (! ·) = listed.toList.drop k := by
    rw [List.filter_eq_self]
    intro x hx
    obtain ⟨j, hj, rfl⟩ := List.getElem_of_mem hx
    rw [List.getElem_drop]
    simp only [List.length_drop, Array.length_toList] at hj
    have hnl : ¬ listed.getD (k + j) false = true := fun h => by have := hXk _ h; omega
    rw [Array.getD_eq_getD_getElem?, Array.getElem?_eq_getElem (by omega)] at hnl
    simpa using hnl
  rw [hd] at hun
  simp only [List.length_drop, Array.length_toList] at hun
  omega
/-- All orders of the first part, then the rest as it is written. -/
theorem any_of_jx2 (hok : drawOk ops = true) {k : Nat} (hk : k ≤ ops.size) (htl : tailOk ops k = true) {σ : Nat → Env} (hσ : ∀ i o, i < k → ops[i]? = some o → StepAt P w0 N ops objs o (σ i) (σ (i + 1))) (_hnw : ∀ i o d, k ≤ i → ops[i]? = some o → o.dst = some d → True) (hQ : AL P w0 N ops Q (ops.toList.drop k) (σ k) objs) :
    ∀ (fuel : Nat) (listed : Array Bool) (a : Act) (w : World), listed.size = ops.size → unlisted listed ≤ fuel → (∀ i, listed.getD i false = true → i < k) → Closed ops (fun i => listed.getD i false = true) → JY w0 N ops objs σ k (fun i => listed.getD i false = true) a w → wpAny P .any ops Q fuel listed a w := by
  intro fuel
  induction fuel with
  | zero =>
    intro listed a w hsz hun hXk hX hJ
    by_cases hall : ∀ j, j < k → listed.getD j false = true
    · exact seq_start hok hk htl hQ hsz hun hXk hall hJ
    · exfalso
      apply hall
      intro j hj
      cases hb : listed.getD j false with
      | true => rfl
      | false =>
        exfalso
        have hjl : j < listed.size := by omega
        have : listed[j] ∈ listed.toList.filter (! ·) := List.mem_filter.2 ⟨by simp, by
          simp only [Array.getD_eq_getD_getElem?, Array.getElem?_eq_getElem hjl, Option.getD_some] at hb; simp [hb]⟩
        have := List.length_pos_of_mem this
        unfold unlisted at hun; omega
  | succ fuel ih =>
    intro listed a w hsz hun hXk hX hJ
    by_cases hall : ∀ j, j < k → listed.getD j false = true
    · exact seq_start hok hk htl hQ hsz hun hXk hall hJ
    have hsome : ∃ j, j < k ∧ ¬ listed.getD j false = true := by
      refine Classical.byContradiction fun hn => hall fun j hj => Classical.byContradiction fun h => hn ⟨j, hj, h⟩
    refine ⟨fun hr => ?_, fun i hi => ?_⟩
    · exfalso
      have hall2 : ∀ j, j < ops.size → listed.getD j false = true := by
        intro j
        induction j using Nat.strongRecOn with
        | _ j ih =>
          intro hj
          cases hb : listed.getD j false with
          | true => rfl
          | false =>
            have hoj : ops[j]? = some ops[j] := by simp [hj]
            have hmem : j ∈ Region.ready .any ops listed := mem_ready.2 ⟨by
              have hjl : j < listed.size := by omega
              simp only [Array.getD_eq_getD_getElem?, Array.getElem?_eq_getElem hjl, Option.getD_some] at hb ⊢; exact hb, _, hoj, fun e he hbd => ih e.on ((drawOk_spec hok hoj).1 e he hbd) (Nat.lt_trans ((drawOk_spec hok hoj).1 e he hbd) hj)⟩
            rw [hr] at hmem; cases hmem
      obtain ⟨j, hj, hnj⟩ := hsome
      exact hnj (hall2 j (by omega))
    · obtain ⟨h0, o, ho, hed⟩ := mem_ready.1 hi
      have hisz : i < ops.size := (Array.getElem?_eq_some_iff.1 ho).1
      have hil : i < listed.size := by rw [hsz]; exact hisz
      have h0' : listed[i] = false := by simpa [Array.getD_eq_getD_getElem?, hil] using h0
      have hni : ¬ listed.getD i false = true := by simp [hil, h0']
      have hXeq : ∀ k, (listed.setIfInBounds i true).getD k false = true ↔ (k = i ∨ listed.getD k false = true) := fun k => by
        by_cases hk : k = i
        · subst hk; simp [hil]
        · rw [getD_set_ne false (Ne.symm hk)]; simp [hk]
      have hX' : Closed ops fun k => k = i ∨ listed.getD k false = true := fun j oj hj hx e he hb => by
        rcases hx with rfl | hx
        · rw [hj] at ho; cases ho; exact .inr (hed e he hb)
        · exact .inr (hX j oj hj hx e he hb)
      have hik : i < k := Nat.lt_of_not_le fun hge => by
        obtain ⟨j, hj, hnj⟩ := hsome
        have := closed_reach hok hX' i hisz (.inl rfl) j (by omega) (tailOk_spec htl hisz hge (by omega))
        rcases this with h | h
        · omega
        · exact hnj h
      have hXs : Closed ops fun k => (listed.setIfInBounds i true).getD k false = true := fun j oj hj hx e he hb => (hXeq _).2 (hX' j oj hj ((hXeq _).1 hx) e he hb)
      have hun' : unlisted (listed.setIfInBounds i true) ≤ fuel := by
        have key : ∀ (l : List Bool) (i : Nat), l[i]? = some false → ((l.set i true).filter (! ·)).length + 1 = (l.filter (! ·)).length := fun l => by
          induction l with
          | nil => intro i h; simp at h
          | cons x l ih =>
            intro i h
            cases i with
            | zero => simp at h; subst h; simp
            | succ i =>
              have := ih i (by simpa using h)
              cases x <;> simp at this ⊢ <;> omega
        have := key listed.toList i (by simp [hil, h0'])
        unfold unlisted at hun ⊢
        simp only [Array.toList_setIfInBounds]
        omega
      have hnext : ∀ a' w', JY w0 N ops objs σ k (fun k => k = i ∨ listed.getD k false = true) a' w' → wpAny P .any ops Q fuel (listed.setIfInBounds i true) a' w' := fun a' w' hJ' =>
        ih _ a' w' (by simpa using hsz) hun' (fun j hj => ((hXeq j).1 hj).elim (fun e => e ▸ hik) (hXk j)) hXs ⟨hJ'.defers, hJ'.size, hJ'.mem, fun t k hk h1 h2 v hv => hJ'.cut t k hk (fun m hm hw => (hXeq m).1 (h1 m hm hw)) (fun m hm hmk hw hx => h2 m hm hmk hw ((hXeq m).2 hx)) v hv⟩
      obtain ⟨d, tv, hd, hdN, hσi, hcase⟩ := hσ i o hik ho
      have hguard : ∀ j b c dj, o.guard = some (j, b) → (ops[j]?).bind (·.dst) = some dj → lk dj (σ i) = some (.bool c) → yielded ops a.tmps j = some c := fun j b c dj h1 h2 h3 => by
        have hl : dj ∈ o.looksAt ops := by unfold Oper.looksAt; rw [h1]; simp [h2]
        exact yielded_eq h2 (jy_read hok hk hJ hX hXk ho hik hni hX' hl h3).bool_inv
      unfold wpOp
      rw [ho]
      rcases hcase with ⟨hg, hy⟩ | ⟨hg, rfl⟩
      · have hw : Region.wanted o (yielded ops a.tmps) = true := by
          rcases hg with hg | ⟨j, b, dj, h1, h2, h3⟩
          · simp [Region.wanted, hg]
          · simp [Region.wanted, h1, hguard j b b dj h1 h2 h3]
        simp only [hw, if_true]
        refine .inl (hy a w _ Q hJ.mem (fun x hx v hv => ?_) fun v w' hr hsw hst => ?_)
        · cases x with
          | tmp t =>
            have hl : t ∈ o.looksAt ops := by
              unfold Oper.looksAt
              exact List.mem_append_left _ (List.mem_filterMap.2 ⟨.tmp t, hx, rfl⟩)
            exact jy_read hok hk hJ hX hXk ho hik hni hX' hl hv
          | const u => exact tvOf_rep hv
          | func f => simp only [ev, Option.some.injEq] at hv; subst hv; exact .fn f [] #[] rfl (by simp)
          | global g => cases hv
        · rw [hd]
          exact hnext _ _ (jy_step hok hk hJ hX hXk ho hik hni hd hdN hσ hσi hr hsw hst)
      · have hw : Region.wanted o (yielded ops a.tmps) = false := by
          rcases hg with ⟨j, b, dj, h1, h2, h3⟩ | ⟨j, c, dj, h1, h2, h3⟩
          · cases b <;> simp [Region.wanted, h1, hguard j _ _ dj h1 h2 h3]
          · have hl : dj ∈ o.looksAt ops := by unfold Oper.looksAt; rw [h1]; simp [h2]
            simp [Region.wanted, h1, yielded_undef h2 (jy_read hok hk hJ hX hXk ho hik hni hX' hl h3).undef_inv]
        simp only [hw, Bool.false_eq_true, if_false]
        rw [hd]
        exact hnext _ _ (jy_step hok hk hJ hX hXk ho hik hni hd hdN hσ hσi (.tup [] #[] rfl (by simp)) hJ.mem (step_refl _ _))

inductive Cut : Nat → List Oper → List Oper → List Oper → Prop
  | zero (l : List Oper) : Cut 0 l [] l
  | succ (n : Nat) (x : Oper) (l l1 l2 : List Oper) (h : Cut n l l1 l2) : Cut (n + 1) (x :: l) (x :: l1) l2
theorem Cut.eq {n : Nat} {l l1 l2 : List Oper} (h : Cut n l l1 l2) : l1 = l.take n ∧ l2 = l.drop n ∧ n ≤ l.length := by
  induction h with
  | zero l => simp
  | succ n x l l1 l2 h ih => obtain ⟨h1, h2, h3⟩ := ih; subst h1; subst h2; simp; exact h3
theorem aw_draw2 (k : Nat) {id : Nat} {l l1 l2 : List Oper} {env : Env} (hm : P.follows .mixedOrders = true) (hok : drawOk l.toArray = true) (htl : tailOk l.toArray k = true) (hc : Cut k l l1 l2) (h : DR P w0 N l.toArray objs (fun env' => AL P w0 N l.toArray Q l2 env' objs) l1 env) : AW P w0 N (.region id l.toArray true) Q env objs := ⟨fun a w hs => by
  obtain ⟨e1, e2, hkl⟩ := hc.eq
  subst e1; subst e2
  obtain ⟨σ, h1, h2, h3⟩ := dr_steps h
  rw [List.length_take, Nat.min_eq_left hkl] at h2
  have hrep : ∀ i, (Array.replicate l.toArray.size false).getD i false = false := fun i => by
    rcases Nat.lt_or_ge i l.toArray.size with h | h
    · simp at h; simp [h]
    · simp at h; simp [Array.getD_eq_getD_getElem?, h]
  have h3' : ∀ i o, i < k → l[i]? = some o → StepAt P w0 N l.toArray objs o (σ i) (σ (i + 1)) := fun i o hi ho => h3 i o (by rw [List.getElem?_take, if_pos hi]; exact ho)
  refine wp_region_any hm (any_of_jx2 hok (k := k) (by simpa using hkl) htl (σ := σ) (fun i o hi hk => h3' i o hi (by simpa using hk)) (fun _ _ _ _ _ _ => trivial) (by simpa using h2) _ _ _ _ (by simp) (by simp [unlisted]) (fun i hi => by rw [hrep] at hi; cases hi) (fun j oj _ hx => nomatch (hrep j).symm.trans hx) ⟨hs.defers, hs.size, ?_, fun t c hc h4 h5 v hv => ?_⟩)
  · exact hs.mem.grow ⟨hs.mem.below.os, hs.mem.below.tape, hs.mem.below.output, hs.mem.below.size, hs.mem.below.block⟩ (Nat.le_refl _) (fun _ _ => rfl)
  · have hk0 : ∀ m, m ≤ c → lk t (σ m) = lk t (σ 0) := fun m => by
      induction m with
      | zero => intro _; rfl
      | succ m ih =>
        intro hm2
        have hml : m < l.length := by omega
        obtain ⟨d, tv, e1, _, e2, _⟩ := h3' m l[m] (by omega) (List.getElem?_eq_getElem hml)
        rw [e2, lk_cons, if_neg]
        · exact ih (by omega)
        · intro e
          have := h4 m (by omega) (by unfold Writes; simp [hml, e1, e])
          rw [hrep] at this; cases this
    rw [hk0 c (Nat.le_refl _), h1 t] at hv
    have hst : Step w objs { w with drawn := w.drawn + 1 } objs := ⟨fun _ _ _ => rfl, fun _ _ h => h, fun _ _ _ rows _ _ h => ⟨⟨rows, h⟩, rfl⟩, Nat.le_refl _, fun h => h⟩
    exact (hs.env t v hv).step hst⟩
end
end Go.Proofs.YtiihihgjiklnoaaGreatDoor
/- The abstract walk, part 12: the rules for a region whose order is open, and those that make or write memory, by program. -/
namespace Go.Proofs.YtiihihgjiklnoaaGreatDoor
open Go Go.RowKit
section
variable {P : Program} {w0 : World} {N : Nat} {Q : Exit → Act → World → Prop} {env : Env} {objs : Objs} {ops : Array Oper} {rest : List Oper} {d T0 : Nat} {pos : String} {af : Array Edge} {g : Option (Nat × Bool)} {K : Env → Prop}
theorem dr_nil (h : AQ w0 N Q .normal env objs) : DR P w0 N ops objs (fun env2 => AQ w0 N Q .normal env2 objs) [] env := .nil env h
theorem dr_nil2 {l2 : List Oper} {ops2 : Array Oper} (h : AL P w0 N ops2 Q l2 env objs) : DR P w0 N ops objs (fun env2 => AL P w0 N ops2 Q l2 env2 objs) [] env := .nil env h
/-- The next operation of an open region is carried out. -/
structure DO (P : Program) (w0 : World) (N : Nat) (ops : Array Oper) (objs : Objs) (K : Env → Prop) (o : Oper) (rest : List Oper) (env : Env) : Prop where
  run : GRun ops env o → DR P w0 N ops objs K (o :: rest) env
theorem dr_none {o : Oper} (hg : o.guard = none) (h : DO P w0 N ops objs K o rest env) : DR P w0 N ops objs K (o :: rest) env := h.run (.inl hg)
theorem dr_run {o : Oper} {j dj : Nat} {b : Bool} {v : TV} (hg : o.guard = some (j, b)) (hj : (ops[j]?).bind (·.dst) = some dj) (hv : lk dj env = some v) (he : v = .bool b) (h : DO P w0 N ops objs K o rest env) : DR P w0 N ops objs K (o :: rest) env := h.run (.inr ⟨j, b, dj, hg, hj, by rw [hv, he]⟩)
theorem dr_skip {o : Oper} {d dj j : Nat} {b c : Bool} {v : TV} (hg : o.guard = some (j, c)) (hj : (ops[j]?).bind (·.dst) = some dj) (hb : lk dj env = some v) (hv : v = .bool b) (hc : c = !b) (hd : o.dst = some d) (hN : Nat.blt d N = true) (h : DR P w0 N ops objs K rest ((d, .tup []) :: env)) : DR P w0 N ops objs K (o :: rest) env := .skip _ _ _ _ hd hN (.inl ⟨j, b, dj, by rw [hg, hc], hj, by rw [hb, hv]⟩) h
theorem dr_skip2 {o : Oper} {d dj j : Nat} {c : Bool} {v : TV} (hg : o.guard = some (j, c)) (hj : (ops[j]?).bind (·.dst) = some dj) (hb : lk dj env = some v) (hv : v = .tup []) (hd : o.dst = some d) (hN : Nat.blt d N = true) (h : DR P w0 N ops objs K rest ((d, .tup []) :: env)) : DR P w0 N ops objs K (o :: rest) env := .skip _ _ _ _ hd hN (.inr ⟨j, c, dj, hg, hj, by rw [hb, hv]⟩) h
theorem dr_gsplit {o : Oper} {j dj : Nat} {b : Bool} {p : Prop} {i : Decidable p} {v : TV} (_hg : o.guard = some (j, b)) (_hj : (ops[j]?).bind (·.dst) = some dj) (hv : lk dj env = some v) (he : v = .bool (@decide p i)) (ht : p → DR P w0 N ops objs K (o :: rest) ((dj, .bool true) :: env)) (hf : ¬ p → DR P w0 N ops objs K (o :: rest) ((dj, .bool false) :: env)) : DR P w0 N ops objs K (o :: rest) env := by
  by_cases h : p
  · exact .know _ _ dj v _ hv (by rw [he]; simp [h]) (ht h)
  · exact .know _ _ dj v _ hv (by rw [he]; simp [h]) (hf h)
theorem dr_gt {o : Oper} {j dj : Nat} {b : Bool} {p : Prop} {i : Decidable p} {v : TV} (hg : o.guard = some (j, b)) (hj : (ops[j]?).bind (·.dst) = some dj) (hv : lk dj env = some v) (he : v = .bool (@decide p i)) (hp : p) (ht : DR P w0 N ops objs K (o :: rest) ((dj, .bool true) :: env)) : DR P w0 N ops objs K (o :: rest) env := dr_gsplit hg hj hv he (fun _ => ht) (fun h => absurd hp h)
theorem dr_gf {o : Oper} {j dj : Nat} {b : Bool} {p : Prop} {i : Decidable p} {v : TV} (hg : o.guard = some (j, b)) (hj : (ops[j]?).bind (·.dst) = some dj) (hv : lk dj env = some v) (he : v = .bool (@decide p i)) (hp : ¬ p) (hf : DR P w0 N ops objs K (o :: rest) ((dj, .bool false) :: env)) : DR P w0 N ops objs K (o :: rest) env := dr_gsplit hg hj hv he (fun h => absurd h hp) (fun _ => hf)
theorem dr_gsplit_b {o : Oper} {j dj : Nat} {b c : Bool} {v : TV} (_hg : o.guard = some (j, b)) (_hj : (ops[j]?).bind (·.dst) = some dj) (hv : lk dj env = some v) (he : v = .bool c) (ht : c = true → DR P w0 N ops objs K (o :: rest) ((dj, .bool true) :: env)) (hf : c = false → DR P w0 N ops objs K (o :: rest) ((dj, .bool false) :: env)) : DR P w0 N ops objs K (o :: rest) env := by
  cases c
  · exact .know _ _ dj v _ hv he (hf rfl)
  · exact .know _ _ dj v _ hv he (ht rfl)
theorem d_load_agg_cp {T : TypeId} {x : Operand} {out : List TV} {f : Nat} {l : List TV} (hN : Nat.blt d N = true) (_hA : agT T = true) (hT : isAggB P T = true) (hi : (P.info? T).isSome = true) (hs : P.cellsOf T = szT T) (hx : ev env x = some (.cp f l)) (htk : Taken (szT T) (l) out) (h : DR P w0 N ops objs K rest ((d, .agg out) :: env)) : DO P w0 N ops objs K ⟨some d, .load T x, T0, pos, af, g⟩ rest env := ⟨fun hgr => .run _ _ _ _ _ rfl hN hgr (y_load_agg rfl hT hi hs hx (fun _ => .cp f l) htk) h⟩
theorem d_load_agg_mp {T : TypeId} {x : Operand} {out : List TV} {s b off : Nat} {cells : List TV} (hN : Nat.blt d N = true) (_hA : agT T = true) (hT : isAggB P T = true) (hi : (P.info? T).isSome = true) (hs : P.cellsOf T = szT T) (hx : ev env x = some (.mp s b off)) (hm : (s, b, TObj.box cells) ∈ objs) (htk : Taken (szT T) (cells.drop off) out) (h : DR P w0 N ops objs K rest ((d, .agg out) :: env)) : DO P w0 N ops objs K ⟨some d, .load T x, T0, pos, af, g⟩ rest env := ⟨fun hgr => .run _ _ _ _ _ rfl hN hgr (y_load_agg rfl hT hi hs hx (fun _ => .mp s b off cells hm) htk) h⟩
theorem d_load_agg_me {T : TypeId} {x : Operand} {out : List TV} {s b m j off : Nat} {rows : List (List TV)} {r0 : List TV} (hN : Nat.blt d N = true) (_hA : agT T = true) (hT : isAggB P T = true) (hi : (P.info? T).isSome = true) (hs : P.cellsOf T = szT T) (hx : ev env x = some (.me s b m j off)) (hm : (s, b, TObj.row m rows) ∈ objs) (hr : rows[j]? = some r0) (htk : Taken (szT T) (r0.drop off) out) (h : DR P w0 N ops objs K rest ((d, .agg out) :: env)) : DO P w0 N ops objs K ⟨some d, .load T x, T0, pos, af, g⟩ rest env := ⟨fun hgr => .run _ _ _ _ _ rfl hN hgr (y_load_agg rfl hT hi hs hx (fun _ => .me s b m j off rows r0 hm hr) htk) h⟩
theorem d_lit {T : TypeId} {n m : Nat} {ps : List (Nat × Operand)} {rows : List (List TV)} (hN : Nat.blt d N = true) (hev : evL env ps 0 = some rows) (hT : P.underlying T = some (.slice (P.elem T))) (hI : (zeroOk P (P.elem T)).isSome = true) (_hs : esT T = some m) (hm : P.cellsOf (P.elem T) = m) (hm0 : Nat.blt 0 m = true) (hn : rows.length = n) (hbig : Nat.ble (n * m) 16777216 = true) (hall : (rows.all fun r => Nat.beq r.length m) = true) (h : DR P w0 N ops objs K rest ((d, .sl w0.heap.size m rows) :: env)) : DO P w0 N ops objs K ⟨some d, .buildSlice T n ps.toArray, T0, pos, af, g⟩ rest env := ⟨fun hgr => .run _ _ _ _ _ rfl hN hgr (y_lit rfl hT hI hm hm0 hev hn hbig hall) h⟩
theorem d_call {G : World → Prop} {f : Nat} {xs : List Operand} {ts : Array TypeId} {args : List TV} {r : Nat → TV} (hN : Nat.blt d N = true) (hc : callB P f = true) (hargs : Args env objs xs args) (hG : G w0) (hst : Stable G) (hct : Ct P G f args r) (h : DR P w0 N ops objs K rest ((d, r w0.heap.size) :: env)) : DO P w0 N ops objs K ⟨some d, .call { callee := .value (.func f), args := xs.toArray, argTypes := ts }, T0, pos, af, g⟩ rest env := ⟨fun hgr => .run _ _ _ _ _ rfl hN hgr (y_call rfl hc hargs hct hG hst) h⟩
theorem o_alloc {T : TypeId} {zs : List TV} (hN : Nat.blt d N = true) (_he : zT T = zs) (hz : zeroOk P T = some zs) (h : ∀ ss b, AL P w0 N ops Q rest ((d, .mp ss b 0) :: env) ((ss, b, .box zs) :: objs)) : AO P w0 N ops Q ⟨some d, .alloc T, T0, pos, af, g⟩ rest env objs := ao_alloc rfl rfl hN hz h
theorem o_own {T : TypeId} {n m : Nat} {ps : List (Nat × Operand)} {rows : List (List TV)} (hN : Nat.blt d N = true) (hev : evL env ps 0 = some rows) (hT : P.underlying T = some (.slice (P.elem T))) (hI : (zeroOk P (P.elem T)).isSome = true) (_hs : esT T = some m) (hm : P.cellsOf (P.elem T) = m) (hm0 : Nat.blt 0 m = true) (hn : rows.length = n) (hbig : Nat.ble (n * m) 16777216 = true) (hall : (rows.all fun r => Nat.beq r.length m) = true) (h : ∀ ss b, AL P w0 N ops Q rest ((d, .ms ss b 0 n) :: env) ((ss, b, .row m rows) :: objs)) : AO P w0 N ops Q ⟨some d, .buildSlice T n ps.toArray, T0, pos, af, g⟩ rest env objs := ao_lit rfl rfl hN hT hI hm hm0 hev hn hbig hall h
theorem o_store_mp {T : TypeId} {x v : Operand} {s b off : Nat} {tv : TV} {cells vs cells2 : List TV} {objs2 : Objs} (hx : ev env x = some (.mp s b off)) (hv : ev env v = some tv) (hc : tvCells tv = some vs) (hi : (P.info? T).isSome = true) (_hm : (s, b, TObj.box cells) ∈ objs) (hsp : Splice cells off vs cells2) (hu : Upd (s, b, .box cells) (s, b, .box cells2) objs objs2) (hsz : P.cellsOf T = vs.length) (h : AL P w0 N ops Q rest env objs2) : AO P w0 N ops Q ⟨none, .store T x v, T0, pos, af, g⟩ rest env objs := ao_store_mp rfl rfl hx hv hc hi hsz hu hsp h
theorem o_store_me {T : TypeId} {x v : Operand} {s b m j off : Nat} {tv : TV} {vs r r2 : List TV} {rows rows2 : List (List TV)} {objs2 : Objs} (hx : ev env x = some (.me s b m j off)) (hv : ev env v = some tv) (hc : tvCells tv = some vs) (hi : (P.info? T).isSome = true) (_hm : (s, b, TObj.row m rows) ∈ objs) (hr : rows[j]? = some r) (hsp : Splice r off vs r2) (hsz : P.cellsOf T = vs.length) (hrows : rows.set j r2 = rows2) (hu : Upd (s, b, .row m rows) (s, b, .row m rows2) objs objs2) (h : AL P w0 N ops Q rest env objs2) : AO P w0 N ops Q ⟨none, .store T x v, T0, pos, af, g⟩ rest env objs := ao_store_me rfl rfl hx hv hc hi hsz hu hr hsp hrows h
theorem o_append {objsOf : Nat → Objs} {T s b len n m : Nat} {x y : Operand} {f : Nat} {rows rows2 news : List (List TV)} (hN : Nat.blt d N = true) (hx : ev env x = some (.ms s b 0 len)) (hy : ev env y = some (.sl f m news)) (hT : appOk P T m = true) (_hm : (s, b, TObj.row m rows) ∈ objs) (hl : rows.length = len) (hn : news.length = n) (hbig : len + n ≤ 1000000000) (hrows : rows ++ news = rows2) (hu : ∀ b2, Upd (s, b, .row m rows) (s, b2, .row m rows2) objs (objsOf b2)) (h : ∀ b2, AL P w0 N ops Q rest ((d, .ms s b2 0 (len + n)) :: env) (objsOf b2)) : AO P w0 N ops Q ⟨some d, .call { callee := .builtin .append, args := #[x, y], argTypes := #[T, T] }, T0, pos, af, g⟩ rest env objs := ao_append rfl rfl hN hx hy hT (by omega) hn hbig (by rw [← hl, List.take_length]; exact hrows) hu h
end
end Go.Proofs.YtiihihgjiklnoaaGreatDoor
/- The abstract walk, part 13: a struct written out. -/
namespace Go.Proofs.YtiihihgjiklnoaaGreatDoor
open Go Go.RowKit
section
variable {P : Program} {w0 : World} {N : Nat} {Q : Exit → Act → World → Prop} {env : Env} {objs : Objs} {o : Oper}
def placesOf (P : Program) (T : Nat) : Option (List (Nat × Nat)) := match P.underlying T with
  | some (.struct fields) => fields.toList.mapM fun f => (P.info? f.type).map fun i => (f.offset, i.size)
  | _ => none
inductive TB (P : Program) (env : Env) (T : Nat) : List (Nat × Operand) → List TV → List TV → Prop
  | nil (l : List TV) : TB P env T [] l l
  | cons (i : Nat) (x : Operand) (r : List (Nat × Operand)) (l l1 l2 : List TV) (tv : TV) (vs : List TV) (hx : ev env x = some tv) (hc : tvCells tv = some vs) (hs : Splice l (ofT T i) vs l1) (hF : (placesOf P T).bind (·[i]?) = some (ofT T i, vs.length)) (hr : TB P env T r l1 l2) : TB P env T ((i, x) :: r) l l2
theorem tb_fill {w : World} {T : Nat} (a : Act) {places : List (Nat × Nat)} (hp : placesOf P T = some places) {ps : List (Nat × Operand)} {l l2 : List TV} (h : TB P env T ps l l2) : ∀ (cs : Array Value), cs.size = l.length → (∀ (i : Nat) (t : TV) (u : Value), l[i]? = some t → cs[i]? = some u → Rep w objs t u) → (∀ t ∈ l, t.isCell = true) →
    (∀ p ∈ ps, ∀ v, ev env p.2 = some v → Rep w objs v (a.eval p.2)) → ∃ r, Instr.fill (places.toArray[·]?) cs (ps.map fun p => (p.1, a.eval p.2)) = some r ∧ r.size = l2.length ∧ (∀ (i : Nat) (t : TV) (u : Value), l2[i]? = some t → r[i]? = some u → Rep w objs t u) ∧ ∀ t ∈ l2, t.isCell = true := by
  induction h with
  | nil l => exact fun cs h1 h2 h3 _ => ⟨cs, rfl, h1, h2, h3⟩
  | cons i x r l l1 l2 tv vs hx hc hs hF hr ih =>
    intro cs h1 h2 h3 hop
    obtain ⟨g1, g2, g3⟩ := rep_cells (show Rep w objs tv (a.eval x) from hop (i, x) (by simp) tv hx) hc
    obtain ⟨p1, p2, p3⟩ := hs.spec
    rw [hp] at hF
    simp only [Option.bind_some] at hF
    obtain ⟨f1, f2⟩ := Great.foldl_set (ofT T i) (a.eval x).cells.toList 0 cs
    have hsame : (a.eval x).cells.zipIdx.foldl (fun cs (c, j) => cs.setIfInBounds (ofT T i + j) c) cs = ((a.eval x).cells.toList.zipIdx 0).foldl (fun cs (x : Value × Nat) => cs.setIfInBounds (ofT T i + x.2) x.1) cs := by
      rw [← Array.foldl_toList, Array.toList_zipIdx]
    obtain ⟨r', e1, e2, e3⟩ := ih (((a.eval x).cells.toList.zipIdx 0).foldl (fun cs (x : Value × Nat) => cs.setIfInBounds (ofT T i + x.2) x.1) cs) (by rw [f1, h1, p2]) (fun k t u ht hu => by
      rw [f2] at hu
      rw [p3] at ht
      by_cases hin : ofT T i ≤ k ∧ k < ofT T i + vs.length
      · rw [if_pos hin] at ht
        rw [if_pos ⟨by omega, by simp; omega, by omega⟩] at hu
        exact g2 _ t u ht (by simpa using hu)
      · rw [if_neg hin] at ht
        rw [if_neg (by simp; omega)] at hu
        exact h2 k t u ht hu) (fun t ht => by
      obtain ⟨k, hk, rfl⟩ := List.getElem_of_mem ht
      have h5 := p3 k
      rw [List.getElem?_eq_getElem hk] at h5
      split at h5
      · exact g3 _ (List.mem_of_getElem? h5.symm)
      · exact h3 _ (List.mem_of_getElem? h5.symm)) (fun p hp => hop p (by simp [hp]))
    refine ⟨r', ?_, e2, e3⟩
    simp only [List.map_cons, Instr.fill]
    have hpl : places.toArray[i]? = some (ofT T i, vs.length) := by simpa using hF
    rw [hpl]
    simp only
    rw [if_neg (by simp; omega), hsame]
    exact e1
theorem y_build {T : TypeId} {ps : List (Nat × Operand)} {l : List TV} (ho : o.op = .build T ps.toArray) (hz : zeroOk P T = some (zT T)) (hp : (placesOf P T).isSome = true) (hb : TB P env T ps (zT T) l) : Yields P w0 env objs o (.agg l) := yields_same fun a w hw hop => by
  obtain ⟨places, hp⟩ := Option.isSome_iff_exists.1 hp
  have hz0 := hz
  unfold zeroOk at hz
  cases hi : P.info? T with
  | none => rw [hi] at hz; cases hz
  | some it =>
  rw [hi] at hz
  simp only [Option.bind_some] at hz
  cases hzz : it.zero with
  | none => rw [hzz] at hz; cases hz
  | some z =>
  rw [hzz] at hz
  simp only [Option.bind_some] at hz
  have htv := tvL_rep (w := w) (objs := objs) hz
  obtain ⟨r, e1, e2, e3, e4⟩ := tb_fill (w := w) (objs := objs) a hp hb z.cells (by simpa using htv.1.1.symm) (fun i t u ht hu => htv.2 i t u ht (by simpa using hu)) htv.1.2 (fun p hpm v hv => hop p.2 (by
    simp only [ho, Op.operands, List.toList_toArray]; exact List.mem_map.2 ⟨p, hpm, rfl⟩) v hv)
  refine ⟨.agg r, ?_, .agg l r e4 e2.symm e3⟩
  simp only [execOp, ho]
  refine exec_v (run_build w T _ r ?_)
  unfold placesOf at hp
  unfold Program.built
  cases hu : P.underlying T with
  | none => rw [hu] at hp; cases hp
  | some d =>
    rw [hu] at hp
    cases d <;> first | (cases hp; done) | skip
    simp only [hi, hzz, hp]
    simp only [List.map_toArray]
    exact e1
variable {ops : Array Oper} {rest : List Oper} {d T0 : Nat} {pos : String} {af : Array Edge} {g : Option (Nat × Bool)}
theorem o_build {T : TypeId} {ps : List (Nat × Operand)} {zs l : List TV} (hN : Nat.blt d N = true) (he : zT T = zs) (hb : TB P env T ps zs l) (hz : zeroOk P T = some (zT T)) (hp : (placesOf P T).isSome = true) (h : AL P w0 N ops Q rest ((d, .agg l) :: env) objs) : AO P w0 N ops Q ⟨some d, .build T ps.toArray, T0, pos, af, g⟩ rest env objs := ao_q rfl hN (y_build rfl hz hp (by rw [he]; exact hb)) h
end
end Go.Proofs.YtiihihgjiklnoaaGreatDoor
