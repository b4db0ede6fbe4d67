/- Part 10 of the proof: the texts EngN, IvT, IvM, IvO, IvG. -/
import Derived.Test.YtdeokcbbjibkoaaGreatDoorPart9
import Derived.Test.YtdeokcbbjibkoaaGreatDoorPart8
/- The abstract walk, part 20: a region that draws its order in which one variable is made, anywhere, and is set at the end. -/
namespace Go.Proofs.YtdeokcbbjibkoaaGreatDoor
open Go Go.RowKit
/-- Quiet operations, whatever the call owns. -/
inductive DU (P : Program) (w0 : World) (N : Nat) (K : Env → Prop) : List Oper → Env → Prop
  | nil (env : Env) (h : K env) : DU P w0 N K [] env
  | run (o : Oper) (rest : List Oper) (env : Env) (d : Nat) (tv : TV) (hd : o.dst = some d) (hN : Nat.blt d N = true) (hg : o.guard = none) (hy : ∀ objs, Yields P w0 env objs o tv) (h : DU P w0 N K rest ((d, tv) :: env)) : DU P w0 N K (o :: rest) env
section
variable {P : Program} {w0 : World} {N : Nat} {Q : Exit → Act → World → Prop} {objs : Objs} {ops : Array Oper} {env : Env}
theorem du_steps {K : Env → Prop} {l : List Oper} {env : Env} (h : DU P w0 N K l env) : ∃ σ : Nat → Env, (∀ t, lk t (σ 0) = lk t env) ∧ K (σ l.length) ∧ ∀ k o, l[k]? = some o → ∀ objs, StepAt P w0 N ops objs o (σ k) (σ (k + 1)) := by
  induction h with
  | nil env h => exact ⟨fun _ => env, fun _ => rfl, h, by simp⟩
  | run o rest env d tv hd hN hg hy h ih =>
    obtain ⟨σ, h1, h2, h3⟩ := ih
    refine ⟨fun k => match k with | 0 => env | k + 1 => σ k, fun _ => rfl, h2, fun k o' hk objs => ?_⟩
    cases k with
    | zero => simp at hk; subst hk; exact ⟨d, tv, hd, Nat.blt_eq ▸ hN, h1, .inl ⟨.inl hg, hy objs⟩⟩
    | succ k => exact h3 k o' (by simpa using hk) objs
theorem jy_step2 {objs' : Objs} (hok : drawOk ops = true) {k : Nat} (hk : k ≤ ops.size) {σ : Nat → Env} {X : Nat → Prop} {a : Act} {w w' : World} (hJ : JY w0 N ops objs σ k X a w) (hX : Closed ops X) (hXk : ∀ i, X i → i < k) {i d : Nat} {o : Oper} {tv : TV} {v : Value} (hi : ops[i]? = some o) (hik : i < k) (hni : ¬ X i) (hd : o.dst = some d) (hdN : d < N)
    (hσ : ∀ i o, i < k → ops[i]? = some o → StepAt P w0 N ops objs o (σ i) (σ (i + 1))) (hσi : ∀ t, lk t (σ (i + 1)) = lk t ((d, tv) :: σ i)) (hr : Rep w' objs' tv v) (hw : SimW w0 objs' w') (hst : Step w objs w' objs') : JY w0 N ops objs' σ k (fun k => k = i ∨ X k) (a.put (some d) v) w' := by
  refine ⟨hJ.defers, by simp [Act.put, hJ.size], hw, fun t c hc h1 h2 u hu => ?_⟩
  show Rep w' objs' u ((a.tmps.setIfInBounds d v).getD t undef)
  rw [getD_set (by rw [hJ.size]; exact hdN)]
  by_cases hdt : d = t
  · subst hdt
    rw [if_pos rfl]
    have hwi : Writes ops i d := by unfold Writes; rw [hi]; exact hd
    have hic : i < c := Nat.lt_of_not_le fun h => h2 i h hik hwi (.inl rfl)
    have hlast : ∀ m, i + 1 ≤ m → m ≤ c → lk d (σ m) = some tv := fun m => by
      induction m with
      | zero => intro h; omega
      | succ m ih =>
        intro hm1 hm2
        rcases Nat.eq_or_lt_of_le hm1 with h | h
        · have : m = i := by omega
          subst this; rw [hσi, lk_cons, if_pos rfl]
        · have hm : m < ops.size := by omega
          have hom : ops[m]? = some ops[m] := by simp [hm]
          obtain ⟨dm, tm, e1, _, e2, _⟩ := hσ m _ (by omega) hom
          rw [e2, lk_cons, if_neg]
          · exact ih (by omega) (by omega)
          · intro e
            subst e
            have hwm : Writes ops m dm := by unfold Writes; rw [hom]; exact e1
            rcases h1 m (by omega) hwm with h3 | h3
            · omega
            · exact hni (apart_or hok hi hom (by omega) (not_apart_both hd e1) hX h3)
    rw [hlast c hic (Nat.le_refl _)] at hu
    simp only [Option.some.injEq] at hu
    subst hu; exact hr
  · rw [if_neg hdt]
    refine (hJ.cut t c hc (fun m hm hwm => ?_) (fun m hm hmk hwm hx => h2 m hm hmk hwm (.inr hx)) u hu).step hst
    rcases h1 m hm hwm with h3 | h3
    · subst h3
      unfold Writes at hwm
      rw [hi] at hwm
      simp only [Option.bind_some, hd, Option.some.injEq] at hwm
      exact absurd hwm hdt
    · exact h3
/-- A new variable, if one looks away. -/
theorem y_alloc_top {o : Oper} {T : TypeId} {zs : List TV} (ho : o.op = .alloc T) (hz : zeroOk P T = some zs) : Yields P w0 env objs o .top := fun a w K Q hw hop hK => by
  obtain ⟨ss, hf⟩ := site_new objs
  obtain ⟨z, h1, h2, h3⟩ := zero_spec hz w
  have hrun : (execOp a.eval o).run P w = .ok (.value (.pointer (some ⟨w.heap.size, 0, none⟩))) (w.alloc (.cells z.cells T)) := by
    simp only [execOp, ho]
    refine exec_v ?_
    simp [Instr.alloc, Sem.run_bind, h1, newVar, newRow, run_newObj_alloc, Sem.run_pure]
  unfold Oper.wp
  rw [hrun]
  obtain ⟨g1, g2⟩ := hw.alloc (.cells z.cells T)
  exact hK _ _ (.top _) g1 g2
theorem alloc_wp {o : Oper} {T : TypeId} {zs : List TV} (ho : o.op = .alloc T) (hz : zeroOk P T = some zs) {a : Act} {w : World} (hw : SimW w0 objs w) {K : Act → World → Prop} (hK : ∀ ss b v w', Rep w' ((ss, b, .box zs) :: objs) (.mp ss b 0) v → SimW w0 ((ss, b, .box zs) :: objs) w' → Step w objs w' ((ss, b, .box zs) :: objs) → K (a.put o.dst v) w') : o.wp P a w K Q := by
  obtain ⟨ss, hf⟩ := site_new objs
  obtain ⟨z, h1, h2, h3⟩ := zero_spec hz w
  have hst := step_new hw z.cells T ss (.box zs)
  have hrun : (execOp a.eval o).run P w = .ok (.value (.pointer (some ⟨w.heap.size, 0, none⟩))) (w.alloc (.cells z.cells T)) := by
    simp only [execOp, ho]
    refine exec_v ?_
    simp [Instr.alloc, Sem.run_bind, h1, newVar, newRow, run_newObj_alloc, Sem.run_pure]
  unfold Oper.wp
  rw [hrun]
  refine hK ss w.heap.size _ _ (.mp ss _ 0 ⟨by simp, noMark_new hw #[] 0 ss _⟩) (hw.newObj hf ⟨⟨hw.below.size, h2.2⟩, z.cells, T, heap_alloc_new w _, h2.1, fun j t hj => ?_⟩) hst
  have hlt : j < z.cells.size := by rw [h2.1]; exact (List.getElem?_eq_some_iff.1 hj).1
  exact ⟨z.cells[j], by simp [hlt], h3 _ _ j t _ hj (by simp [hlt])⟩
/-- One operation of many, in whatever order. -/
theorem jx_op (hok : drawOk ops = true) {k : Nat} (hk : k ≤ ops.size) {σ : Nat → Env} {X : Nat → Prop} {a : Act} {w : World} (hJ : JY w0 N ops objs σ k X a w) (hX : Closed ops X) (hXk : ∀ i, X i → i < k) {i : Nat} {o : Oper} (ho : ops[i]? = some o) (hik : i < k) (hni : ¬ X i) (hX' : Closed ops fun k => k = i ∨ X k)
    (hσ : ∀ i o, i < k → ops[i]? = some o → StepAt P w0 N ops objs o (σ i) (σ (i + 1))) {K : Act → World → Prop} (hnext : ∀ d v w', o.dst = some d → d < N → Step w objs w' objs → JY w0 N ops objs σ k (fun k => k = i ∨ X k) (a.put (some d) v) w' → K (a.put (some d) v) w') : wpOp P ops Q i K a w := by
  obtain ⟨d, tv, hd, hdN, hσi, hcase⟩ := hσ i o hik ho
  have hguard : ∀ j b c dj, o.guard = some (j, b) → (ops[j]?).bind (·.dst) = some dj → lk dj (σ i) = some (.bool c) → yielded ops a.tmps j = some c := fun j b c dj h1 h2 h3 => by
    have hl : dj ∈ o.looksAt ops := by unfold Oper.looksAt; rw [h1]; simp [h2]
    exact yielded_eq h2 (jy_read hok hk hJ hX hXk ho hik hni hX' hl h3).bool_inv
  unfold wpOp
  rw [ho]
  rcases hcase with ⟨hg, hy⟩ | ⟨hg, rfl⟩
  · have hw : Region.wanted o (yielded ops a.tmps) = true := by
      rcases hg with hg | ⟨j, b, dj, h1, h2, h3⟩
      · simp [Region.wanted, hg]
      · simp [Region.wanted, h1, hguard j b b dj h1 h2 h3]
    simp only [hw, if_true]
    refine .inl (hy a w _ Q hJ.mem (fun x hx v hv => ?_) fun v w' hr hsw hst => ?_)
    · cases x with
      | tmp t =>
        have hl : t ∈ o.looksAt ops := by
          unfold Oper.looksAt
          exact List.mem_append_left _ (List.mem_filterMap.2 ⟨.tmp t, hx, rfl⟩)
        exact jy_read hok hk hJ hX hXk ho hik hni hX' hl hv
      | const u => exact tvOf_rep hv
      | func f => simp only [ev, Option.some.injEq] at hv; subst hv; exact .fn f [] #[] rfl (by simp)
      | global g => cases hv
    · rw [hd]
      exact hnext d v w' hd hdN hst (jy_step hok hk hJ hX hXk ho hik hni hd hdN hσ hσi hr hsw hst)
  · have hw : Region.wanted o (yielded ops a.tmps) = false := by
      rcases hg with ⟨j, b, dj, h1, h2, h3⟩ | ⟨j, c, dj, h1, h2, h3⟩
      · cases b <;> simp [Region.wanted, h1, hguard j _ _ dj h1 h2 h3]
      · have hl : dj ∈ o.looksAt ops := by unfold Oper.looksAt; rw [h1]; simp [h2]
        simp [Region.wanted, h1, yielded_undef h2 (jy_read hok hk hJ hX hXk ho hik hni hX' hl h3).undef_inv]
    simp only [hw, Bool.false_eq_true, if_false]
    rw [hd]
    exact hnext d _ w hd hdN (step_refl _ _) (jy_step hok hk hJ hX hXk ho hik hni hd hdN hσ hσi (.tup [] #[] rfl (by simp)) hJ.mem (step_refl _ _))
/-- What holds when X of the first k operations has been carried out, the making of the variable among them or not. -/
def JZ (w0 : World) (N : Nat) (ops : Array Oper) (objs : Objs) (σ : Nat → Env) (k ia d : Nat) (zs : List TV) (X : Nat → Prop) (a : Act) (w : World) : Prop :=
  (¬ X ia ∧ JY w0 N ops objs σ k X a w) ∨ (X ia ∧ ∃ ss b, JY w0 N ops ((ss, b, .box zs) :: objs) σ k X a w ∧ Rep w ((ss, b, .box zs) :: objs) (.mp ss b 0) (a.tmps.getD d undef))
theorem JZ.congr {σ : Nat → Env} {k ia d : Nat} {zs : List TV} {X Y : Nat → Prop} {a : Act} {w : World} (h : JZ w0 N ops objs σ k ia d zs X a w) (hXY : ∀ i, Y i ↔ X i) : JZ w0 N ops objs σ k ia d zs Y a w := by
  have : Y = X := funext fun i => propext (hXY i)
  rw [this]; exact h
theorem jz_start (hok : drawOk ops = true) {k : Nat} (hk : k ≤ ops.size) (htl : tailOk ops k = true) {σ : Nat → Env} {ia d : Nat} {zs : List TV} (hia : ia < k) (hQ : ∀ ss b, AL P w0 N ops Q (ops.toList.drop k) ((d, .mp ss b 0) :: σ k) ((ss, b, .box zs) :: objs)) {fuel : Nat} {listed : Array Bool} {a : Act} {w : World} (hsz : listed.size = ops.size) (hun : unlisted listed ≤ fuel) (hXk : ∀ i, listed.getD i false = true → i < k)
    (hall : ∀ j, j < k → listed.getD j false = true) (hJ : JZ w0 N ops objs σ k ia d zs (fun i => listed.getD i false = true) a w) : wpAny P .any ops Q fuel listed a w := by
  rcases hJ with ⟨hn, _⟩ | ⟨_, ss, b, hJ, hr⟩
  · exact absurd (hall ia hia) hn
  · refine seq_start (σ := fun c => if c = k then (d, .mp ss b 0) :: σ k else σ c) hok hk htl (by rw [if_pos rfl]; exact hQ ss b) hsz hun hXk hall ⟨hJ.defers, hJ.size, hJ.mem, fun t c hc h1 h2 v hv => ?_⟩
    split at hv
    · rename_i hck
      subst hck
      rw [lk_cons] at hv
      split at hv
      · rename_i hdt
        subst hdt
        cases hv
        exact hr
      · exact hJ.cut t c hc h1 h2 v hv
    · exact hJ.cut t c hc h1 h2 v hv
theorem any_of_jx3 (hok : drawOk ops = true) {k : Nat} (hk : k ≤ ops.size) (htl : tailOk ops k = true) {σ : Nat → Env} {ia d : Nat} {T : TypeId} {zs : List TV} {oa : Oper} (hia : ia < k) (hoa : ops[ia]? = some oa) (hop : oa.op = .alloc T) (hda : oa.dst = some d) (hdN : d < N) (hz : zeroOk P T = some zs) (hga : oa.guard = none)
    (hother : ∀ j o, j < k → ops[j]? = some o → j ≠ ia → o.dst ≠ some d) (hσ : ∀ i o, i < k → ops[i]? = some o → ∀ objs, StepAt P w0 N ops objs o (σ i) (σ (i + 1))) (hσa : ∀ t, lk t (σ (ia + 1)) = lk t ((d, .top) :: σ ia)) (hQ : ∀ ss b, AL P w0 N ops Q (ops.toList.drop k) ((d, .mp ss b 0) :: σ k) ((ss, b, .box zs) :: objs)) :
    ∀ (fuel : Nat) (listed : Array Bool) (a : Act) (w : World), listed.size = ops.size → unlisted listed ≤ fuel → (∀ i, listed.getD i false = true → i < k) → Closed ops (fun i => listed.getD i false = true) → JZ w0 N ops objs σ k ia d zs (fun i => listed.getD i false = true) a w → wpAny P .any ops Q fuel listed a w := by
  intro fuel
  induction fuel with
  | zero =>
    intro listed a w hsz hun hXk hX hJ
    by_cases hall : ∀ j, j < k → listed.getD j false = true
    · exact jz_start hok hk htl hia hQ hsz hun hXk hall hJ
    · exfalso
      apply hall
      intro j hj
      cases hb : listed.getD j false with
      | true => rfl
      | false =>
        exfalso
        have hjl : j < listed.size := by omega
        have : listed[j] ∈ listed.toList.filter (! ·) := List.mem_filter.2 ⟨by simp, by
          simp only [Array.getD_eq_getD_getElem?, Array.getElem?_eq_getElem hjl, Option.getD_some] at hb; simp [hb]⟩
        have := List.length_pos_of_mem this
        unfold unlisted at hun; omega
  | succ fuel ih =>
    intro listed a w hsz hun hXk hX hJ
    by_cases hall : ∀ j, j < k → listed.getD j false = true
    · exact jz_start hok hk htl hia hQ hsz hun hXk hall hJ
    have hsome : ∃ j, j < k ∧ ¬ listed.getD j false = true := by
      refine Classical.byContradiction fun hn => hall fun j hj => Classical.byContradiction fun h => hn ⟨j, hj, h⟩
    refine ⟨fun hr => ?_, fun i hi => ?_⟩
    · exfalso
      have hall2 : ∀ j, j < ops.size → listed.getD j false = true := by
        intro j
        induction j using Nat.strongRecOn with
        | _ j ih =>
          intro hj
          cases hb : listed.getD j false with
          | true => rfl
          | false =>
            have hoj : ops[j]? = some ops[j] := by simp [hj]
            have hmem : j ∈ Region.ready .any ops listed := mem_ready.2 ⟨by
              have hjl : j < listed.size := by omega
              simp only [Array.getD_eq_getD_getElem?, Array.getElem?_eq_getElem hjl, Option.getD_some] at hb ⊢; exact hb, _, hoj, fun e he hbd => ih e.on ((drawOk_spec hok hoj).1 e he hbd) (Nat.lt_trans ((drawOk_spec hok hoj).1 e he hbd) hj)⟩
            rw [hr] at hmem; cases hmem
      obtain ⟨j, hj, hnj⟩ := hsome
      exact hnj (hall2 j (by omega))
    · obtain ⟨h0, o, ho, hed⟩ := mem_ready.1 hi
      have hisz : i < ops.size := (Array.getElem?_eq_some_iff.1 ho).1
      have hil : i < listed.size := by rw [hsz]; exact hisz
      have h0' : listed[i] = false := by simpa [Array.getD_eq_getD_getElem?, hil] using h0
      have hni : ¬ listed.getD i false = true := by simp [hil, h0']
      have hXeq : ∀ k, (listed.setIfInBounds i true).getD k false = true ↔ (k = i ∨ listed.getD k false = true) := fun k => by
        by_cases hk : k = i
        · subst hk; simp [hil]
        · rw [getD_set_ne false (Ne.symm hk)]; simp [hk]
      have hX' : Closed ops fun k => k = i ∨ listed.getD k false = true := fun j oj hj hx e he hb => by
        rcases hx with rfl | hx
        · rw [hj] at ho; cases ho; exact .inr (hed e he hb)
        · exact .inr (hX j oj hj hx e he hb)
      have hik : i < k := Nat.lt_of_not_le fun hge => by
        obtain ⟨j, hj, hnj⟩ := hsome
        have := closed_reach hok hX' i hisz (.inl rfl) j (by omega) (tailOk_spec htl hisz hge (by omega))
        rcases this with h | h
        · omega
        · exact hnj h
      have hXs : Closed ops fun k => (listed.setIfInBounds i true).getD k false = true := fun j oj hj hx e he hb => (hXeq _).2 (hX' j oj hj ((hXeq _).1 hx) e he hb)
      have hun' : unlisted (listed.setIfInBounds i true) ≤ fuel := by
        have key : ∀ (l : List Bool) (i : Nat), l[i]? = some false → ((l.set i true).filter (! ·)).length + 1 = (l.filter (! ·)).length := fun l => by
          induction l with
          | nil => intro i h; simp at h
          | cons x l ih =>
            intro i h
            cases i with
            | zero => simp at h; subst h; simp
            | succ i =>
              have := ih i (by simpa using h)
              cases x <;> simp [List.filter_cons] at this ⊢ <;> omega
        have := key listed.toList i (by simp [hil, h0'])
        unfold unlisted at hun ⊢
        simp only [Array.toList_setIfInBounds]
        omega
      have hnext : ∀ a' w', JZ w0 N ops objs σ k ia d zs (fun k => k = i ∨ listed.getD k false = true) a' w' → wpAny P .any ops Q fuel (listed.setIfInBounds i true) a' w' := fun a' w' hJ' =>
        ih _ a' w' (by simpa using hsz) hun' (fun j hj => ((hXeq j).1 hj).elim (fun e => e ▸ hik) (hXk j)) hXs (hJ'.congr hXeq)
      rcases hJ with ⟨hn, hJ⟩ | ⟨hy, ss, b, hJ, hrep⟩
      · by_cases hii : i = ia
        · subst hii
          rw [hoa] at ho
          cases ho
          unfold wpOp
          rw [hoa]
          have hw : Region.wanted oa (yielded ops a.tmps) = true := by simp [Region.wanted, hga]
          simp only [hw, if_true]
          refine .inl (alloc_wp hop hz hJ.mem fun ss b v w' hr hsw hst => ?_)
          rw [hda]
          refine hnext _ _ (.inr ⟨.inl rfl, ss, b, jy_step2 hok hk hJ hX hXk hoa hik hni hda hdN (fun i o h1 h2 => hσ i o h1 h2 objs) hσa (.top v) hsw hst, ?_⟩)
          show Rep w' _ _ ((a.tmps.setIfInBounds d v).getD d undef)
          rw [getD_set (by rw [hJ.size]; exact hdN), if_pos rfl]
          exact hr
        · refine jx_op hok hk hJ hX hXk ho hik hni hX' (fun i o h1 h2 => hσ i o h1 h2 objs) fun d' v w' _ _ hst hJ' => hnext _ _ (.inl ⟨fun h => ?_, hJ'⟩)
          rcases h with h | h
          · exact hii h.symm
          · exact hn h
      · have hii : i ≠ ia := fun h => hni (h ▸ hy)
        refine jx_op hok hk hJ hX hXk ho hik hni hX' (fun i o h1 h2 => hσ i o h1 h2 _) fun d' v w' hd' hd'N hst hJ' => hnext _ _ (.inr ⟨.inr hy, ss, b, hJ', ?_⟩)
        show Rep w' _ _ ((a.tmps.setIfInBounds d' v).getD d undef)
        rw [getD_set (by rw [hJ.size]; exact hd'N), if_neg (fun h => hother i o hik ho hii (by rw [hd', h]))]
        exact hrep.step hst

/-- A region that draws its order: quiet operations (l1), the making of a variable, then the rest in order. -/
theorem aw_draw3 (k : Nat) {id d : Nat} {l l1 l2 : List Oper} {oa : Oper} {T : TypeId} {zs : List TV} {env : Env} (hm : P.follows .mixedOrders = true) (hok : drawOk l.toArray = true) (htl : tailOk l.toArray (k + 1) = true) (hc : Cut k l l1 (oa :: l2)) (hop : oa.op = .alloc T) (hda : oa.dst = some d) (hga : oa.guard = none) (hdN : Nat.blt d N = true) (he : zT T = zs) (hz : zeroOk P T = some zs)
    (hno : (l1.all fun o => !(o.dst == some d)) = true) (h : DU P w0 N (fun env' => ∀ ss b, AL P w0 N l.toArray Q l2 ((d, .mp ss b 0) :: env') ((ss, b, .box zs) :: objs)) l1 env) : AW P w0 N (.region id l.toArray true) Q env objs := ⟨fun a w hs => by
  obtain ⟨e1, e2, hkl⟩ := hc.eq
  have hkl2 : k < l.length := Nat.lt_of_not_le fun hge => by rw [List.drop_of_length_le hge] at e2; cases e2
  have hd2 : l.drop (k + 1) = l2 := by
    rw [List.drop_eq_getElem_cons hkl2] at e2
    exact (List.cons.inj e2).2.symm
  have hoa : l[k]? = some oa := by
    rw [List.drop_eq_getElem_cons hkl2] at e2
    rw [List.getElem?_eq_getElem hkl2, (List.cons.inj e2).1]
  obtain ⟨σ0, h1, h2, h3⟩ := du_steps (ops := l.toArray) h
  have hl1 : l1.length = k := by rw [e1, List.length_take]; omega
  rw [hl1] at h2
  have hdN' : d < N := Nat.blt_eq ▸ hdN
  -- the chain, with the variable's slot unknown behind its making
  have hσ : ∃ σ : Nat → Env, (∀ c, c ≤ k → σ c = σ0 c) ∧ σ (k + 1) = (d, .top) :: σ0 k := ⟨fun c => if c ≤ k then σ0 c else (d, .top) :: σ0 k, fun c hc => by simp [hc], if_neg (by omega)⟩
  obtain ⟨σ, hs1, hs2⟩ := hσ
  have hst : ∀ i o, i < k + 1 → l[i]? = some o → ∀ objs, StepAt P w0 N l.toArray objs o (σ i) (σ (i + 1)) := fun i o hi ho objs => by
    by_cases hik : i < k
    · rw [hs1 i (by omega), hs1 (i + 1) (by omega)]
      exact h3 i o (by rw [e1, List.getElem?_take, if_pos hik]; exact ho) objs
    · obtain rfl : i = k := by omega
      rw [hoa] at ho; cases ho
      rw [hs1 i (Nat.le_refl _), hs2]
      exact ⟨d, .top, hda, hdN', fun _ => rfl, .inl ⟨.inl hga, y_alloc_top hop hz⟩⟩
  have hrep : ∀ i, (Array.replicate l.toArray.size false).getD i false = false := fun i => by
    rcases Nat.lt_or_ge i l.toArray.size with h | h
    · simp at h; simp [h]
    · simp at h; simp [Array.getD_eq_getD_getElem?, Array.getElem?_eq_none, h]
  refine wp_region_any hm (any_of_jx3 (objs := objs) hok (k := k + 1) (by simp; omega) htl (σ := σ) (ia := k) (d := d) (T := T) (zs := zs) (oa := oa) (Nat.lt_succ_self k) (by simpa using hoa) hop hda hdN' hz hga (fun j o hj ho hne hd => ?_) (fun i o hi ho => hst i o hi (by simpa using ho)) (fun t => by rw [hs2, hs1 k (Nat.le_refl _)]) (fun ss b => ?_) _ _ _ _ (by simp) (by simp [unlisted]) (fun i hi => by rw [hrep] at hi; cases hi) (fun j oj _ hx => nomatch (hrep j).symm.trans hx) (.inl ⟨(fun h => nomatch (hrep k).symm.trans h), hs.defers, hs.size, ?_, fun t c hc h4 h5 v hv => ?_⟩))
  · have hmem : o ∈ l1 := by
      have : l1[j]? = some o := by rw [e1, List.getElem?_take, if_pos (by omega)]; simpa using ho
      exact List.mem_of_getElem? this
    have := List.all_eq_true.1 hno o hmem
    rw [hd] at this
    simp at this
  · rw [hs2]
    have : (l.toArray.toList.drop (k + 1)) = l2 := by simpa using hd2
    rw [this]
    refine ⟨fun a w hs => (h2 ss b).run a w ⟨hs.defers, hs.size, hs.mem, fun t v hv => hs.env t v ?_⟩⟩
    rw [lk_cons] at hv ⊢
    split
    · rename_i hdt; rw [if_pos hdt] at hv; exact hv
    · rename_i hdt
      rw [if_neg hdt] at hv
      rw [lk_cons, if_neg hdt]; exact hv
  · exact hs.mem.grow ⟨hs.mem.below.os, hs.mem.below.tape, hs.mem.below.output, hs.mem.below.size, hs.mem.below.block⟩ (Nat.le_refl _) (fun _ _ => rfl)
  · have hk0 : ∀ m, m ≤ c → lk t (σ m) = lk t (σ 0) := fun m => by
      induction m with
      | zero => intro _; rfl
      | succ m ih =>
        intro hm2
        have hml : m < l.length := by omega
        obtain ⟨d, tv, e1, _, e2, _⟩ := hst m l[m] (by omega) (List.getElem?_eq_getElem hml) objs
        rw [e2, lk_cons, if_neg]
        · exact ih (by omega)
        · intro e
          have := h4 m (by omega) (by unfold Writes; simp [hml, e1, e])
          rw [hrep] at this; cases this
    rw [hk0 c (Nat.le_refl _), hs1 0 (Nat.zero_le _), h1 t] at hv
    have hst : Step w objs { w with drawn := w.drawn + 1 } objs := ⟨fun _ _ _ => rfl, fun _ _ h => h, fun _ _ _ rows _ _ h => ⟨⟨rows, h⟩, rfl⟩, Nat.le_refl _, fun h => h⟩
    exact (hs.env t v hv).step hst⟩
variable {K : Env → Prop} {rest : List Oper} {d T0 : Nat} {pos : String} {af : Array Edge}
theorem du_nil (h : K env) : DU P w0 N K [] env := .nil _ h
theorem u_move {x : Operand} {tv : TV} (hN : Nat.blt d N = true) (hx : ev env x = some tv) (h : DU P w0 N K rest ((d, tv) :: env)) : DU P w0 N K (⟨some d, .move x, T0, pos, af, none⟩ :: rest) env := .run _ _ _ _ _ rfl hN rfl (fun _ => y_move rfl hx) h
theorem u_nilCheck_cp {x : Operand} {f : Nat} {l : List TV} (hN : Nat.blt d N = true) (hx : ev env x = some (.cp f l)) (h : DU P w0 N K rest ((d, .cp f l) :: env)) : DU P w0 N K (⟨some d, .nilCheck x, T0, pos, af, none⟩ :: rest) env := .run _ _ _ _ _ rfl hN rfl (fun _ => y_nilCheck rfl hx (fun _ => .cp f l)) h
theorem u_load_cp {T : TypeId} {x : Operand} {c : TV} {rr : List TV} {f : Nat} {l : List TV} (hN : Nat.blt d N = true) (hA : agT T = false) (hT : isScal P T = true) (hx : ev env x = some (.cp f l)) (hl : l = c :: rr) (h : DU P w0 N K rest ((d, c) :: env)) : DU P w0 N K (⟨some d, .load T x, T0, pos, af, none⟩ :: rest) env := .run _ _ _ _ _ rfl hN rfl (fun _ => y_load rfl hT hx (fun _ => .cp f l) hl) h
theorem u_load_agg_cp {T : TypeId} {x : Operand} {out : List TV} {f : Nat} {l : List TV} (hN : Nat.blt d N = true) (hA : agT T = true) (hT : isAggB P T = true) (hi : (P.info? T).isSome = true) (hs : P.cellsOf T = szT T) (hx : ev env x = some (.cp f l)) (htk : Taken (szT T) (l) out) (h : DU P w0 N K rest ((d, .agg out) :: env)) : DU P w0 N K (⟨some d, .load T x, T0, pos, af, none⟩ :: rest) env := .run _ _ _ _ _ rfl hN rfl (fun _ => y_load_agg rfl hT hi hs hx (fun _ => .cp f l) htk) h
theorem u_fieldAddr {T : TypeId} {x : Operand} {tv tv2 : TV} {i : Nat} (hN : Nat.blt d N = true) (hx : ev env x = some tv) (hF : fieldB P T i = true) (ht : tvOff (ofT T i) tv = some tv2) (h : DU P w0 N K rest ((d, tv2) :: env)) : DU P w0 N K (⟨some d, .fieldAddr T x i, T0, pos, af, none⟩ :: rest) env := .run _ _ _ _ _ rfl hN rfl (fun _ => y_fieldAddr rfl hx hF ht) h
theorem u_indexAddr {T : TypeId} {x i : Operand} {f m : Nat} {rows : List (List TV)} {kk : IntKind} {n : Int} {j : Nat} {r : List TV} (hN : Nat.blt d N = true) (hx : ev env x = some (.sl f m rows)) (hi : ev env i = some (.int kk n)) (hT : P.underlying T = some (.slice (P.elem T))) (hI : (P.info? (P.elem T)).isSome = true) (hm : P.cellsOf (P.elem T) = m) (hm0 : Nat.blt 0 m = true) (hn : n = (j : Int)) (hr : rows[j]? = some r) (h : DU P w0 N K rest ((d, .cp f r) :: env)) : DU P w0 N K (⟨some d, .indexAddr T x i, T0, pos, af, none⟩ :: rest) env := .run _ _ _ _ _ rfl hN rfl (fun _ => y_indexAddr rfl hx hi hT hI hm hm0 hn hr) h
theorem u_len_sl {x : Operand} {t : TypeId} {f m n : Nat} {rows : List (List TV)} (hN : Nat.blt d N = true) (hx : ev env x = some (.sl f m rows)) (hT : P.underlying t = some (.slice (P.elem t))) (hn : rows.length = n) (h : DU P w0 N K rest ((d, .int .i64 (n : Int)) :: env)) : DU P w0 N K (⟨some d, .call { callee := .builtin .len, args := #[x], argTypes := #[t] }, T0, pos, af, none⟩ :: rest) env := .run _ _ _ _ _ rfl hN rfl (fun _ => y_len_sl rfl hx hT hn) h
theorem u_sub {t t2 : TypeId} {x y : Operand} {k : IntKind} {m n c : Int} (hN : Nat.blt d N = true) (hx : ev env x = some (.int k m)) (hy : ev env y = some (.int k n)) (hc : k.wrap (m - n) = c) (h : DU P w0 N K rest ((d, .int k c) :: env)) : DU P w0 N K (⟨some d, .binOp .sub t x y t2, T0, pos, af, none⟩ :: rest) env := .run _ _ _ _ _ rfl hN rfl (fun _ => y_sub rfl hx hy hc) h
end
end Go.Proofs.YtdeokcbbjibkoaaGreatDoor
/- IsVerified: selectors as contracts; what is new memory of the depths. -/
namespace Go.Proofs.YtdeokcbbjibkoaaGreatDoor
open Go Go.RowKit
def GL (w : World) : Prop := MaxL w
theorem GL_st : Stable GL := ⟨fun _ _ h hb => MaxL.below h hb⟩
theorem hcaS (s : ByteArray) (hs : s.size ≤ 1048576) : Ct Tryz.prog GL 91 [.str s] (fun _ => .int .i64 (nArgsL s.data.toList)) := ct_str_int fun w _ => specCountArgs_any s w hs
theorem hseS (s : ByteArray) (hs : s.size ≤ 1048576) : Ct Tryz.prog GL 90 [.str s] (fun _ => .bool (isSelL s.data.toList)) := ct_str_bool fun w _ => specIsSelector_any s w hs
theorem hcaI (s : ByteArray) (hs : s.size ≤ 1048576) : Ct Tryz.prog GL 32 [.str s] (fun _ => .int .i64 (nArgsL s.data.toList)) := ct_str_int fun w hG => countArgs_any s w hs hG
theorem hseI (s : ByteArray) (hs : s.size ≤ 1048576) : Ct Tryz.prog GL 31 [.str s] (fun _ => .bool (isSelL s.data.toList)) := ct_str_bool fun w hG => isSelector_any s w hs hG
theorem dO_new (r : Option (List Int)) : ∀ y : Nat × Nat, True → (∀ s b o, (s, b, o) ∈ dO r y → ObjNew (dO r y) o) ∧ NewOk (dO r y) (dR r y) := fun y _ =>
  ⟨fun s b o h => by
    simp only [dO, List.mem_singleton, Prod.mk.injEq] at h
    obtain ⟨_, _, rfl⟩ := h
    exact flat_new (intR_flat _), .tup _ fun t ht => by
    simp only [List.mem_cons, List.not_mem_nil, or_false] at ht
    rcases ht with rfl | rfl
    · exact .ms _ _ _ _ _ _ List.mem_cons_self
    · exact .flat _ rfl⟩
theorem instrs_tw (lo : Nat) (is : List TInstr) : instrR is = is.map (TInstr.tw lo) := rfl
end Go.Proofs.YtdeokcbbjibkoaaGreatDoor
/- IsVerified: an instruction, on the side of the reference (l16Instr). -/
namespace Go.Proofs.YtdeokcbbjibkoaaGreatDoor
open Go Go.RowKit
section
variable {G : World → Prop}
set_option maxRecDepth 8000 in
set_option maxHeartbeats 8000000 in
theorem l16Instr_ct (hst : Stable G) (hse : ∀ s : ByteArray, s.size ≤ 1048576 → Ct Tryz.prog G 90 [.str s] (fun _ => .bool (isSelL s.data.toList)))
    (f lo lo2 : Nat) (cl : List TClassInfo) (cen : TV) (cs : List TCode) (mn : Int) (hcl : cl.length ≤ 1048576) (hcs : cs.length ≤ 1048576 ∧ ∀ y ∈ cs, TCode.small 1048576 y) (o : List Int) (hinv : outInv cs.length o) (k : Nat) (own : TCode) (hk : cs[k]? = some own) (hsl : 0 ≤ own.slots ∧ own.slots ≤ 30)
    (L : List Int) (hL : L = (climb o cs.length k).reverse) (x : TInstr) (hx : x.text.size ≤ 1048576) (hbf : blockFits cs k x) :
    Ct Tryz.prog G 92 [.cp f [.sl lo 3 (cl.map (TClassInfo.tw lo)), .sl lo 4 (cs.map (TCode.tw lo)), cen, .int .i64 mn], .int .i64 (k : Int), .agg [.int .i64 x.op, .int .i64 x.a, .int .i64 x.b, .str x.text], .sl lo2 1 (intR L)] (fun _ => .bool (instrB cs cl.length o k own x)) := by
  obtain ⟨op, a, b, t⟩ := x
  dsimp only at hx ⊢
  refine ct_enter Tryz.func92 rfl Tryz.ntmps92 rfl rfl fun w0 _ hG => ?_
  have hl1 := TClassInfo.len lo cl
  have hl2 := TCode.len lo cs
  have hll := intR_length L
  have hLn : L.length ≤ 1048576 := by rw [hL, List.length_reverse]; exact Nat.le_trans (climb_len _ _ _) hcs.1
  have hkl : k < cs.length := (List.getElem?_eq_some_iff.1 hk).1
  have hrk : (cs.map (TCode.tw lo))[k]? = some [.bool own.block, .int .i64 own.params, .int .i64 own.slots, .sl lo 4 (own.instrs.map (TInstr.tw lo))] := by rw [List.getElem?_map, hk]; rfl
  have hil := TInstr.len lo own.instrs
  have hin : own.instrs.length ≤ 1048576 := (hcs.2 own (List.mem_of_getElem? hk)).1
  repeat' (first | with_reducible refine al_none rfl ?_ | ((with_reducible first | apply o_move | apply o_assign | apply o_nilCheck_cp); rfl; rfl) | ((with_reducible apply o_load_cp); rfl; rfl; kernel_rfl; rfl; rfl) | ((with_reducible apply o_fieldAddr); rfl; rfl; kernel_rfl; rfl) | ((with_reducible apply o_indexAddr); rfl; rfl; rfl; kernel_rfl; kernel_rfl; kernel_rfl; rfl; ((with_reducible exact rfl)); ((with_reducible assumption))) | ((with_reducible apply o_extract); rfl; rfl; rfl) | ((with_reducible apply o_load_agg_cp); rfl; rfl; kernel_rfl; kernel_rfl; kernel_rfl; rfl; (exact .succ _ _ _ _ (.succ _ _ _ _ (.succ _ _ _ _ (.succ _ _ _ _ (.zero _)))))) | ((with_reducible apply o_box); rfl; rfl; rfl) | ((with_reducible apply o_alloc); rfl; rfl; kernel_rfl; intro ss bb) | ((with_reducible apply o_store_mp); rfl; rfl; rfl; kernel_rfl; (repeat (with_reducible exact mh)); ((repeat (first | exact .nil _ | apply Splice.put))); (repeat (with_reducible exact Upd.head _)); kernel_rfl) | ((with_reducible apply o_call); rfl; kernel_rfl; (repeat (first | exact Args.nil | ((with_reducible apply Args.cons); rfl; exact .same _))); exact hG; exact hst; exact l14Uses_ct _) | with_reducible refine aw_hold_r (id := 3) ?_ | with_reducible refine aw_seq ?_ | with_reducible refine aw_region ?_ | with_reducible refine al_nil ?_ | with_reducible refine aq_then ?_)
  refine ⟨aw_seq ?_⟩
  generalize ss = s9; generalize bb = b9
  apply aw_join (X := Unit) [0, 1, 3, 6, 9] (fun _ => [(60, .bool (!decide (instrHead ⟨op, a, b, t⟩)))]) (fun _ => [(s9, b9, .box [.bool own.block, .int .i64 own.params, .int .i64 own.slots, .sl lo 4 (own.instrs.map (TInstr.tw lo))])]) (fun _ => True)
  case hk => (repeat (first | exact Kept.nil | (apply Kept.cons; rfl)))
  · clear hrk hk hL hbf hinv hse hl1 hl2 hll hLn hin hil
    repeat' (first | with_reducible refine al_none rfl ?_ | ((with_reducible apply o_move); rfl; rfl) | ((with_reducible apply o_pick_t); rfl; rfl; (with_reducible rfl); rfl) | ((with_reducible apply o_pick_f); rfl; rfl; (with_reducible rfl); rfl) | ((with_reducible apply o_load_cp); rfl; rfl; kernel_rfl; rfl; rfl) | ((with_reducible apply o_fieldAddr); rfl; rfl; kernel_rfl; rfl) | ((with_reducible apply o_neq); rfl; rfl; rfl) | ((with_reducible apply o_not_b); rfl; rfl; (with_reducible rfl)) | ((with_reducible apply o_neq_s); rfl; rfl; rfl) | ((with_reducible apply o_call); rfl; kernel_rfl; (repeat (first | exact Args.nil | ((with_reducible apply Args.cons); rfl; exact .same _))); exact hG; exact hst; exact l1In_ct _ _ _) | with_reducible refine aw_region ?_ | with_reducible refine al_nil ?_ | refine al_run rfl rfl rfl (by with_reducible rfl) ?_ | refine al_skip rfl rfl rfl (by with_reducible rfl) rfl rfl rfl ?_ | refine al_skip2 rfl rfl rfl (by with_reducible rfl) rfl rfl ?_ | (refine al_gsplit rfl rfl rfl (by with_reducible rfl) (fun hg => ?_) (fun hg => ?_)) | (refine al_gsplit_b rfl rfl rfl (by with_reducible rfl) (fun hg => ?_) (fun hg => ?_)))
    all_goals
      refine aq_mid () trivial (.of _ (Weak.envCons (lk_bool rfl ?_) Weak.envNil) (by repeat (first | exact Weak.envNil | refine Weak.envCons rfl ?_)) (by (try dsimp only); (repeat (with_reducible exact Pick.refl _))))
      simp only [Bool.not_eq_true', Bool.not_eq_false', ne_eq, Decidable.not_not] at *
      first
        | (simp [instrHead, *]; done)
  intro _ _
  by_cases hh : instrHead ⟨op, a, b, t⟩
  case neg =>
    have hB : instrB cs cl.length o k own ⟨op, a, b, t⟩ = false := by unfold instrB; rw [decide_eq_false hh]; rfl
    rw [hB, decide_eq_false hh, Bool.not_false]
    repeat' (first | with_reducible refine al_none rfl ?_ | ((with_reducible apply o_assign); rfl; rfl) | with_reducible refine aw_seq ?_ | with_reducible refine aw_region ?_ | with_reducible refine al_nil ?_ | with_reducible refine aq_then ?_ | with_reducible refine aw_ret ?_ | with_reducible refine aq_then_ret ?_ | refine aw_cond_t rfl (by with_reducible rfl) ?_)
    refine aq_ret1 (by exact .inr rfl) rfl (.tmp _ _ rfl) (fun _ => ?_)
    exact Fin.flat rfl
  have hB : instrB cs cl.length o k own ⟨op, a, b, t⟩ = instrTail cs cl.length o k own ⟨op, a, b, t⟩ := by unfold instrB; rw [decide_eq_true hh]; rfl
  rw [hB, decide_eq_true hh, Bool.not_true]
  have hlabt : (!inR b 0 ((L.length : Int) - 1)) = false → (0 ≤ b ∧ b ≤ (L.length : Int) - 1) ∧ ∃ (q v : Nat) (y : TCode), (L.length : Int) - 1 - b = q ∧ (intR L)[q]? = some [.int .i64 (v : Int)] ∧ cs[v]? = some y ∧ levelOf cs o k b = some y := fun h => by
    have h2 : 0 ≤ b ∧ b ≤ (L.length : Int) - 1 := by simpa [inR] using h
    exact ⟨h2, level_list hinv hkl hL h2⟩
  have hlabf : (!inR b 0 ((L.length : Int) - 1)) = true → varOk cs o k ⟨op, a, b, t⟩ = false := fun h => by
    have h2 : ¬ (0 ≤ b ∧ b ≤ (L.length : Int) - 1) := by
      intro h3
      rw [inR_t h3] at h; cases h
    unfold varOk
    dsimp only
    rw [level_list_off hinv hkl hL h2]
  unfold blockFits at hbf
  dsimp only at hbf
  clear hB hinv hL hk
  repeat' (first | with_reducible refine al_none rfl ?_ | ((with_reducible first | apply o_move | apply o_assign); rfl; rfl) | ((with_reducible apply o_pick_t); rfl; rfl; (with_reducible rfl); rfl) | ((with_reducible apply o_pick_f); rfl; rfl; (with_reducible rfl); rfl) | ((with_reducible apply o_load_cp); rfl; rfl; kernel_rfl; rfl; rfl) | ((with_reducible apply o_load_mp); rfl; rfl; kernel_rfl; rfl; (repeat (with_reducible exact mh)); rfl) | ((with_reducible apply o_fieldAddr); rfl; rfl; kernel_rfl; rfl) | ((with_reducible apply o_len_sl); rfl; rfl; kernel_rfl; (exact List.length_map _)) | ((with_reducible apply o_eql); rfl; rfl; rfl) | ((with_reducible apply o_sub); rfl; rfl; rfl; (first | ((with_reducible first | refine w_nm1 ?_ | refine IntWalk.i64_in _ ?_); omega) | ((with_reducible refine IntWalk.i64_in _ ?_); omega))) | ((with_reducible apply o_not_b); rfl; rfl; (with_reducible rfl)) | with_reducible refine aw_draw (by kernel_rfl) (by kernel_rfl) ?_ | with_reducible refine dr_nil ?_ | with_reducible refine dr_none rfl ?_ | refine dr_run rfl rfl rfl (by with_reducible rfl) ?_ | refine dr_skip rfl rfl rfl (by with_reducible rfl) rfl rfl rfl ?_ | (refine dr_gsplit_b rfl rfl rfl (by with_reducible rfl) (fun hg => ?_) (fun hg => ?_)) | ((with_reducible first | apply d_move | apply d_assign | apply d_nilCheck_cp); rfl; rfl) | ((with_reducible apply d_pick_t); rfl; rfl; (with_reducible rfl); rfl) | ((with_reducible apply d_pick_f); rfl; rfl; (with_reducible rfl); rfl) | ((with_reducible apply d_load_cp); rfl; rfl; kernel_rfl; rfl; rfl) | ((with_reducible apply d_fieldAddr); rfl; rfl; kernel_rfl; rfl) | ((with_reducible apply d_len_sl); rfl; rfl; kernel_rfl; (exact List.length_map _)) | ((with_reducible apply d_sub); rfl; rfl; rfl; (((with_reducible refine IntWalk.i64_in _ ?_); omega))) | ((with_reducible apply o_call); rfl; kernel_rfl; (repeat (first | exact Args.nil | ((with_reducible apply Args.cons); rfl; exact .same _))); exact hG; exact hst; first | exact l1In_ct _ _ _ | exact l3IsText_ct _ hx | exact hse _ hx | exact specIsName_ct hst _ hx) | ((with_reducible apply d_call); rfl; kernel_rfl; (repeat (first | exact Args.nil | ((with_reducible apply Args.cons); rfl; exact .same _))); exact hG; exact hst; first | exact l1In_ct _ _ _ | exact hse _ hx) | with_reducible refine aw_hold_r (id := 18) ?_ | with_reducible refine aw_hold_r (id := 31) ?_ | with_reducible refine aw_seq ?_ | with_reducible refine aw_region ?_ | with_reducible refine al_nil ?_ | with_reducible refine aq_then ?_ | with_reducible refine aw_block ?_ | with_reducible refine aw_skip ?_ | with_reducible refine aw_ret ?_ | with_reducible refine aq_then_ret ?_ | with_reducible refine aq_block_ret ?_ | with_reducible refine aq_block ?_ | refine al_run rfl rfl rfl (by with_reducible rfl) ?_ | refine al_skip rfl rfl rfl (by with_reducible rfl) rfl rfl rfl ?_ | (refine al_gsplit_b rfl rfl rfl (by with_reducible rfl) (fun hg => ?_) (fun hg => ?_)) | refine aw_cond_f rfl (by with_reducible rfl) ?_ | (refine aw_cond_dt rfl (by with_reducible rfl) (by assumption) ?_) | (refine aw_cond rfl (by with_reducible rfl) (fun hc => ?_) (fun hc => ?_)) | (refine aw_cond_b rfl (by with_reducible rfl) (fun hc => ?_) (fun hc => ?_)))
  all_goals first
    | (refine aq_ret1 (by first | exact .inl rfl | exact .inr rfl) rfl (.tmp _ _ rfl) (fun _ => ?_)
       clear hlabt hrk hbf hl1 hl2 hll hil hcs hse hh
       refine fin_bool ?_
       first
         | (simp [instrTail, *]; done)
         | (have hv := hlabf (by assumption)
            clear hlabf
            subst_vars
            simp [instrTail, hv]; done))
    | (refine ⟨?_⟩
       have h15 : op = 15 := by assumption
       obtain ⟨ha, y, hy, hyb⟩ := hbf h15
       obtain ⟨c, rfl⟩ : ∃ c : Nat, a = c := ⟨a.toNat, by omega⟩
       rw [Int.toNat_natCast] at hy
       have hry : (cs.map (TCode.tw lo))[c]? = some [.bool true, .int .i64 y.params, .int .i64 y.slots, .sl lo 4 (y.instrs.map (TInstr.tw lo))] := by rw [List.getElem?_map, hy, ← hyb]; rfl
       have cin := l1In_ct (G := G) (c : Int) 0 ((k - 1 : Nat) : Int)
       rw [inR_t (by omega)] at cin
       repeat' (first | with_reducible refine aw_draw (by kernel_rfl) (by kernel_rfl) ?_ | with_reducible refine dr_nil ?_ | with_reducible refine dr_none rfl ?_ | refine dr_run rfl rfl rfl (by with_reducible rfl) ?_ | ((with_reducible first | apply d_move | apply d_assign | apply d_nilCheck_cp); rfl; rfl) | ((with_reducible apply d_pick_t); rfl; rfl; (with_reducible rfl); rfl) | ((with_reducible apply d_load_cp); rfl; rfl; kernel_rfl; rfl; rfl) | ((with_reducible apply d_fieldAddr); rfl; rfl; kernel_rfl; rfl) | ((with_reducible apply d_indexAddr); rfl; rfl; rfl; kernel_rfl; kernel_rfl; kernel_rfl; rfl; ((with_reducible exact rfl)); ((with_reducible assumption))) | ((with_reducible apply d_sub); rfl; rfl; rfl; (((with_reducible refine w_nm1 ?_); omega))) | ((with_reducible apply d_call); rfl; kernel_rfl; (repeat (first | exact Args.nil | ((with_reducible apply Args.cons); rfl; exact .same _))); exact hG; exact hst; exact cin) | with_reducible refine aw_seq ?_ | with_reducible refine aq_then ?_ | with_reducible refine aw_ret ?_ | with_reducible refine aq_then_ret ?_ | with_reducible refine aq_block_ret ?_)
       refine aq_ret1 (by exact .inr rfl) rfl (.tmp _ _ rfl) (fun _ => ?_)
       refine fin_bool ?_
       simp [instrTail, h15]; done)
    | (refine ⟨?_⟩
       obtain ⟨hb, q, v, y, hq, hrow, hy, hlev⟩ := hlabt (by assumption)
       obtain ⟨c, rfl⟩ : ∃ c : Nat, b = c := ⟨b.toNat, by omega⟩
       obtain rfl : q = L.length - 1 - c := by omega
       have hry : (cs.map (TCode.tw lo))[v]? = some [.bool y.block, .int .i64 y.params, .int .i64 y.slots, .sl lo 4 (y.instrs.map (TInstr.tw lo))] := by rw [List.getElem?_map, hy]; rfl
       clear hlabt hlabf hbf hq
       repeat' (first | with_reducible refine al_none rfl ?_ | ((with_reducible first | apply o_move | apply o_assign); rfl; rfl) | ((with_reducible apply o_load_cp); rfl; rfl; kernel_rfl; rfl; rfl) | ((with_reducible apply o_load_mp); rfl; rfl; kernel_rfl; rfl; (repeat (with_reducible exact mh)); rfl) | ((with_reducible apply o_fieldAddr); rfl; rfl; kernel_rfl; rfl) | ((with_reducible apply o_eql); rfl; rfl; rfl) | ((with_reducible apply o_sub); rfl; rfl; rfl; (exact rfl)) | ((with_reducible apply aw_draw3 (id := 18) 15); kernel_rfl; kernel_rfl; kernel_rfl; (repeat (first | exact Cut.zero _ | apply Cut.succ)); rfl; rfl; rfl; rfl; rfl; kernel_rfl; rfl) | ((with_reducible first | apply u_move | apply u_nilCheck_cp); rfl; rfl) | ((with_reducible apply u_load_cp); rfl; rfl; kernel_rfl; rfl; rfl) | ((with_reducible apply u_fieldAddr); rfl; rfl; kernel_rfl; rfl) | ((with_reducible apply u_indexAddr); rfl; rfl; rfl; kernel_rfl; kernel_rfl; kernel_rfl; rfl; (first | (with_reducible exact rfl) | exact nat_sub (by omega)); ((with_reducible assumption))) | ((with_reducible apply u_len_sl); rfl; rfl; kernel_rfl; (exact List.length_map _)) | ((with_reducible apply u_sub); rfl; rfl; rfl; (((with_reducible first | refine w_nm1 ?_ | refine IntWalk.i64_in _ ?_); omega))) | ((with_reducible apply u_load_agg_cp); rfl; rfl; kernel_rfl; kernel_rfl; kernel_rfl; rfl; (exact .succ _ _ _ _ (.succ _ _ _ _ (.succ _ _ _ _ (.succ _ _ _ _ (.zero _)))))) | (with_reducible refine du_nil ?_; intro ss bb) | ((with_reducible apply o_store_mp); rfl; rfl; rfl; kernel_rfl; (repeat (with_reducible exact mh)); ((repeat (first | exact .nil _ | apply Splice.put))); (repeat (with_reducible exact Upd.head _)); kernel_rfl) | ((with_reducible apply o_call); rfl; kernel_rfl; (repeat (first | exact Args.nil | ((with_reducible apply Args.cons); rfl; exact .same _))); exact hG; exact hst; exact l1In_ct _ _ _) | with_reducible refine aw_seq ?_ | with_reducible refine aw_region ?_ | with_reducible refine al_nil ?_ | with_reducible refine aq_then ?_ | with_reducible refine aw_skip ?_ | with_reducible refine aw_ret ?_ | with_reducible refine aq_then_ret ?_ | with_reducible refine aq_block_ret ?_ | (refine aw_cond_dt rfl (by with_reducible rfl) (by assumption) ?_) | (refine aw_cond_df rfl (by with_reducible rfl) (by first | assumption | omega) ?_))
       all_goals first
         | (refine aq_ret1 (by first | exact .inl rfl | exact .inr rfl) rfl (.tmp _ _ rfl) (fun _ => ?_)
            refine fin_bool ?_
            clear hrk hl1 hl2 hll hil hcs hse hh
            subst_vars
            simp [instrTail, varOk, hlev]; done))
end
end Go.Proofs.YtdeokcbbjibkoaaGreatDoor
/- IsVerified: a code, on the side of the reference (l16Code). -/
namespace Go.Proofs.YtdeokcbbjibkoaaGreatDoor
open Go Go.RowKit
/-- The codes around a code, as far as i of them, the innermost last. -/
def chainL (o : List Int) (n k i : Nat) : List Int := ((climb o n (k : Int)).take i).reverse
theorem chainL_len (o : List Int) (n k i : Nat) : (chainL o n k i).length ≤ n := by
  have := climb_len o n (k : Int)
  simp [chainL]; omega
theorem chainL_step {o : List Int} {n k i : Nat} {v : Int} (h : (climb o n (k : Int))[i]? = some v) : v :: chainL o n k i = chainL o n k (i + 1) := by
  unfold chainL
  rw [List.take_add_one, h]; simp
theorem chainL_end {o : List Int} {n k i : Nat} (h : (climb o n (k : Int))[i]? = none) : chainL o n k i = (climb o n (k : Int)).reverse := by
  unfold chainL
  rw [List.take_of_length_le (List.getElem?_eq_none_iff.1 h)]
set_option maxRecDepth 8000 in
set_option maxHeartbeats 8000000 in
theorem l16Code_ct (f lo lo2 : Nat) (cl : List TClassInfo) (cen : TV) (cs : List TCode) (mn : Int) (hcl : cl.length ≤ 1048576) (hcs : cs.length ≤ 1048576 ∧ ∀ y ∈ cs, TCode.small 1048576 y) (o : List Int) (hinv : outInv cs.length o) (k : Nat) (own : TCode) (hk : cs[k]? = some own)
    (hbf : ∀ x ∈ own.instrs, blockFits cs k x) :
    Ct Tryz.prog GL 56 [.cp f [.sl lo 3 (cl.map (TClassInfo.tw lo)), .sl lo 4 (cs.map (TCode.tw lo)), cen, .int .i64 mn], .int .i64 (k : Int), .sl lo2 1 (intR o)] (fun _ => .bool (codeB cs cl.length o k own)) := by
  refine ct_enter Tryz.func56 rfl Tryz.ntmps56 rfl rfl fun w0 _ hG => ?_
  have hst := GL_st
  have hkl : k < cs.length := (List.getElem?_eq_some_iff.1 hk).1
  have hsm := hcs.2 own (List.mem_of_getElem? hk)
  have hiq := fun L hL x hx hb hsl => l16Instr_ct hst hseS f lo w0.heap.size cl cen cs mn hcl hcs o hinv k own hk hsl L hL x hx hb
  have hpre := instrs_pre (cs := cs) (nc := cl.length) (o := o) (k := k) (own := own)
  have hcF := codeB_f (cs := cs) (nc := cl.length) (o := o) (k := k) (x := own)
  have hcT := codeB_t (cs := cs) (nc := cl.length) (o := o) (k := k) (x := own)
  unfold codeOk codeHead at hcF hcT
  have hrk : (cs.map (TCode.tw lo))[k]? = some [.bool own.block, .int .i64 own.params, .int .i64 own.slots, .sl lo 4 (own.instrs.map (TInstr.tw lo))] := by rw [List.getElem?_map, hk]; rfl
  clear hk
  have hgen : ∀ x ∈ own.instrs, instrB cs cl.length o k own x = true → True := fun _ _ _ => trivial
  clear hgen
  have hB : ∃ B : TInstr → Bool, B = instrB cs cl.length o k own := ⟨_, rfl⟩
  obtain ⟨B, hB⟩ := hB
  rw [← hB] at hcF hcT hpre
  have hiq2 : ∀ (L : List Int), L = (climb o cs.length (k : Int)).reverse → ∀ x : TInstr, x.text.size ≤ 1048576 → blockFits cs k x → 0 ≤ own.slots ∧ own.slots ≤ 30 → Ct Tryz.prog GL 92 [.cp f [.sl lo 3 (cl.map (TClassInfo.tw lo)), .sl lo 4 (cs.map (TCode.tw lo)), cen, .int .i64 mn], .int .i64 (k : Int), .agg [.int .i64 x.op, .int .i64 x.a, .int .i64 x.b, .str x.text], .sl w0.heap.size 1 (intR L)] (fun _ => .bool (B x)) := fun L hL x hx hb hsl => by rw [hB]; exact hiq L hL x hx hb hsl
  clear hiq
  have hcB : codeB cs cl.length o k own = codeB cs cl.length o k own := rfl
  generalize hC : codeB cs cl.length o k own = C at hcF hcT ⊢
  clear hB hcB hC
  obtain ⟨bl, pr, sl, is⟩ := own
  dsimp only at hbf hsm hiq2 hpre hcF hcT hrk
  have hn : is.length ≤ 1048576 := hsm.1
  have ht : ∀ i ∈ is, i.text.size ≤ 1048576 := hsm.2
  have hil := TInstr.len lo is
  have c1 := l1In_ct (G := GL) sl 0 30
  have c2 := l1In_ct (G := GL) pr 0 sl
  by_cases h1 : inR sl 0 30 = true
  case neg =>
    rw [hcF fun h => h1 h.1.1]
    rw [Bool.eq_false_iff.2 h1] at c1
    repeat' (first | with_reducible refine al_none rfl ?_ | ((with_reducible first | apply o_move | apply o_assign | apply o_nilCheck_cp); rfl; rfl) | ((with_reducible apply o_load_cp); rfl; rfl; kernel_rfl; rfl; rfl) | ((with_reducible apply o_fieldAddr); rfl; rfl; kernel_rfl; rfl) | ((with_reducible apply o_indexAddr); rfl; rfl; rfl; kernel_rfl; kernel_rfl; kernel_rfl; rfl; ((with_reducible exact rfl)); ((with_reducible assumption))) | with_reducible refine aw_draw (by kernel_rfl) (by kernel_rfl) ?_ | with_reducible refine dr_nil ?_ | with_reducible refine dr_none rfl ?_ | refine dr_skip rfl rfl rfl (by with_reducible rfl) rfl rfl rfl ?_ | ((with_reducible first | apply d_move | apply d_nilCheck_cp); rfl; rfl) | ((with_reducible apply d_pick_t); rfl; rfl; (with_reducible rfl); rfl) | ((with_reducible apply d_load_cp); rfl; rfl; kernel_rfl; rfl; rfl) | ((with_reducible apply d_fieldAddr); rfl; rfl; kernel_rfl; rfl) | ((with_reducible apply d_not_f); rfl; rfl; (with_reducible rfl)) | ((with_reducible apply d_call); rfl; kernel_rfl; (repeat (first | exact Args.nil | ((with_reducible apply Args.cons); rfl; exact .same _))); exact hG; exact hst; exact c1) | with_reducible refine aw_seq ?_ | with_reducible refine aw_region ?_ | with_reducible refine al_nil ?_ | with_reducible refine aq_then ?_ | with_reducible refine aw_ret ?_ | with_reducible refine aq_then_ret ?_ | refine aw_cond_t rfl (by with_reducible rfl) ?_)
    refine aq_ret1 (by exact .inr rfl) rfl (.tmp _ _ rfl) (fun _ => ?_)
    exact Fin.flat rfl
  by_cases h2 : inR pr 0 sl = true
  case neg =>
    rw [hcF fun h => h2 h.1.2.1]
    rw [h1] at c1
    rw [Bool.eq_false_iff.2 h2] at c2
    repeat' (first | with_reducible refine al_none rfl ?_ | ((with_reducible first | apply o_move | apply o_assign | apply o_nilCheck_cp); rfl; rfl) | ((with_reducible apply o_load_cp); rfl; rfl; kernel_rfl; rfl; rfl) | ((with_reducible apply o_fieldAddr); rfl; rfl; kernel_rfl; rfl) | ((with_reducible apply o_indexAddr); rfl; rfl; rfl; kernel_rfl; kernel_rfl; kernel_rfl; rfl; ((with_reducible exact rfl)); ((with_reducible assumption))) | with_reducible refine aw_draw (by kernel_rfl) (by kernel_rfl) ?_ | with_reducible refine dr_nil ?_ | with_reducible refine dr_none rfl ?_ | refine dr_run rfl rfl rfl (by with_reducible rfl) ?_ | refine dr_skip rfl rfl rfl (by with_reducible rfl) rfl rfl rfl ?_ | ((with_reducible first | apply d_move | apply d_nilCheck_cp); rfl; rfl) | ((with_reducible apply d_pick_t); rfl; rfl; (with_reducible rfl); rfl) | ((with_reducible apply d_pick_f); rfl; rfl; (with_reducible rfl); rfl) | ((with_reducible apply d_load_cp); rfl; rfl; kernel_rfl; rfl; rfl) | ((with_reducible apply d_fieldAddr); rfl; rfl; kernel_rfl; rfl) | ((with_reducible apply d_not_t); rfl; rfl; (with_reducible rfl)) | ((with_reducible apply d_not_f); rfl; rfl; (with_reducible rfl)) | ((with_reducible apply d_call); rfl; kernel_rfl; (repeat (first | exact Args.nil | ((with_reducible apply Args.cons); rfl; exact .same _))); exact hG; exact hst; first | exact c1 | exact c2) | with_reducible refine aw_seq ?_ | with_reducible refine aw_region ?_ | with_reducible refine al_nil ?_ | with_reducible refine aq_then ?_ | with_reducible refine aw_ret ?_ | with_reducible refine aq_then_ret ?_ | refine aw_cond_t rfl (by with_reducible rfl) ?_)
    refine aq_ret1 (by exact .inr rfl) rfl (.tmp _ _ rfl) (fun _ => ?_)
    exact Fin.flat rfl
  rw [h1] at c1
  rw [h2] at c2
  by_cases h3 : is.length ≤ 900
  case neg =>
    rw [hcF fun h => h3 h.1.2.2]
    repeat' (first | with_reducible refine al_none rfl ?_ | ((with_reducible first | apply o_move | apply o_assign | apply o_nilCheck_cp); rfl; rfl) | ((with_reducible apply o_load_cp); rfl; rfl; kernel_rfl; rfl; rfl) | ((with_reducible apply o_fieldAddr); rfl; rfl; kernel_rfl; rfl) | ((with_reducible apply o_indexAddr); rfl; rfl; rfl; kernel_rfl; kernel_rfl; kernel_rfl; rfl; ((with_reducible exact rfl)); ((with_reducible assumption))) | with_reducible refine aw_draw (by kernel_rfl) (by kernel_rfl) ?_ | with_reducible refine dr_nil ?_ | with_reducible refine dr_none rfl ?_ | refine dr_run rfl rfl rfl (by with_reducible rfl) ?_ | ((with_reducible first | apply d_move | apply d_nilCheck_cp); rfl; rfl) | ((with_reducible apply d_pick_f); rfl; rfl; (with_reducible rfl); rfl) | ((with_reducible apply d_load_cp); rfl; rfl; kernel_rfl; rfl; rfl) | ((with_reducible apply d_fieldAddr); rfl; rfl; kernel_rfl; rfl) | ((with_reducible apply d_len_sl); rfl; rfl; kernel_rfl; (exact List.length_map _)) | ((with_reducible apply d_gtr); rfl; rfl; rfl) | ((with_reducible apply d_not_t); rfl; rfl; (with_reducible rfl)) | ((with_reducible apply d_call); rfl; kernel_rfl; (repeat (first | exact Args.nil | ((with_reducible apply Args.cons); rfl; exact .same _))); exact hG; exact hst; first | exact c1 | exact c2) | with_reducible refine aw_seq ?_ | with_reducible refine aw_region ?_ | with_reducible refine al_nil ?_ | with_reducible refine aq_then ?_ | with_reducible refine aw_ret ?_ | with_reducible refine aq_then_ret ?_ | (refine aw_cond_dt rfl (by with_reducible rfl) (by first | assumption | omega) ?_))
    refine aq_ret1 (by exact .inr rfl) rfl (.tmp _ _ rfl) (fun _ => ?_)
    exact Fin.flat rfl
  have hsl := of_decide_eq_true h1
  repeat' (first | with_reducible refine al_none rfl ?_ | ((with_reducible first | apply o_move | apply o_assign | apply o_nilCheck_cp); rfl; rfl) | ((with_reducible apply o_load_cp); rfl; rfl; kernel_rfl; rfl; rfl) | ((with_reducible apply o_fieldAddr); rfl; rfl; kernel_rfl; rfl) | ((with_reducible apply o_indexAddr); rfl; rfl; rfl; kernel_rfl; kernel_rfl; kernel_rfl; rfl; ((with_reducible exact rfl)); ((with_reducible assumption))) | with_reducible refine aw_draw (by kernel_rfl) (by kernel_rfl) ?_ | with_reducible refine dr_nil ?_ | with_reducible refine dr_none rfl ?_ | refine dr_run rfl rfl rfl (by with_reducible rfl) ?_ | ((with_reducible first | apply d_move | apply d_nilCheck_cp); rfl; rfl) | ((with_reducible apply d_pick_f); rfl; rfl; (with_reducible rfl); rfl) | ((with_reducible apply d_load_cp); rfl; rfl; kernel_rfl; rfl; rfl) | ((with_reducible apply d_fieldAddr); rfl; rfl; kernel_rfl; rfl) | ((with_reducible apply d_len_sl); rfl; rfl; kernel_rfl; (exact List.length_map _)) | ((with_reducible apply d_gtr); rfl; rfl; rfl) | ((with_reducible apply d_not_t); rfl; rfl; (with_reducible rfl)) | ((with_reducible apply o_lit); rfl; rfl; kernel_rfl; kernel_rfl; rfl; kernel_rfl; rfl; rfl; rfl; rfl) | ((with_reducible apply d_call); rfl; kernel_rfl; (repeat (first | exact Args.nil | ((with_reducible apply Args.cons); rfl; exact .same _))); exact hG; exact hst; first | exact c1 | exact c2) | with_reducible refine aw_seq ?_ | with_reducible refine aw_region ?_ | with_reducible refine al_nil ?_ | with_reducible refine aq_then ?_ | with_reducible refine aw_block ?_ | with_reducible refine aw_skip ?_ | (refine aw_cond_df rfl (by with_reducible rfl) (by omega) ?_))
  have hinv' : outInv o.length o := by rw [hinv.1]; exact hinv
  have hol : o.length = cs.length := hinv.1
  have hcl2 := hcs.1
  apply aw_loopk (X := Nat) [0, 1, 2, 7] (fun i => [(8, .sl w0.heap.size 1 (intR (chainL o cs.length k i))), (9, .int .i64 (upN o i (k : Int)))]) (fun _ => []) (fun i => i ≤ cs.length) (fun i => cs.length - i) 0 (Nat.zero_le _)
  (repeat (first | exact Kept.nil | (apply Kept.cons; rfl))); (repeat (first | exact Weak.envNil | refine Weak.envCons (by rfl) ?_))
  · exact .refl _
  intro i hi
  try dsimp only at hi ⊢
  have hup := upN_in hinv' i (k : Int) (.inr ⟨by omega, by omega⟩)
  have hcu := climb_up hinv' cs.length (k : Int) i (.inr ⟨by omega, by omega, by omega⟩)
  have hLl := chainL_len o cs.length k i
  have hLr := intR_length (chainL o cs.length k i)
  by_cases hat : 0 ≤ upN o i (k : Int)
  · obtain ⟨j, hj⟩ : ∃ j : Nat, upN o i (k : Int) = j := ⟨(upN o i (k : Int)).toNat, by omega⟩
    have hs := upN_succ o i (k : Int)
    rw [if_neg (by omega), hj] at hs
    rw [if_pos hat, hj] at hcu
    rw [hj] at hup
    have hin : i < cs.length := Nat.lt_of_lt_of_le (List.getElem?_eq_some_iff.1 hcu).1 (climb_len _ _ _)
    have hrow := intR_gd (o := o) (j := j) (by omega)
    have hstep := chainL_step hcu
    generalize chainL o cs.length k i = L at hLl hLr hstep ⊢
    have hnew : [[TV.int .i64 (j : Int)]] ++ intR L = intR (chainL o cs.length k (i + 1)) := by rw [← hstep]; rfl
    rw [hj]
    repeat' (first | with_reducible refine al_none rfl ?_ | ((with_reducible first | apply o_move | apply o_assign); rfl; rfl) | ((with_reducible apply o_load_cp); rfl; rfl; kernel_rfl; rfl; rfl) | ((with_reducible apply o_indexAddr); rfl; rfl; rfl; kernel_rfl; kernel_rfl; kernel_rfl; rfl; ((with_reducible exact rfl)); ((with_reducible assumption))) | ((with_reducible apply o_geq); rfl; rfl; rfl) | ((with_reducible apply o_own); rfl; rfl; kernel_rfl; kernel_rfl; rfl; kernel_rfl; rfl; rfl; rfl; rfl; intro ss bb) | ((with_reducible apply o_append); rfl; rfl; rfl; kernel_rfl; (repeat (with_reducible exact mh)); (rfl); ((with_reducible assumption)); omega; rfl; (intro bq; (repeat (with_reducible exact Upd.head _))); intro bb) | with_reducible refine aw_seq ?_ | with_reducible refine aw_region ?_ | with_reducible refine al_nil ?_ | with_reducible refine aq_then ?_ | with_reducible refine aw_block ?_ | with_reducible refine aw_skip ?_ | with_reducible refine aq_block ?_ | (refine aw_cond_dt rfl (by with_reducible rfl) (by first | assumption | omega) ?_))
    refine aq_freeze (t := 8) rfl ?_ (.head _) ?_
    · simp [hLr]; omega
    rw [hnew]
    exact aq_round (i + 1) (by omega) (by omega) (.of _ (by repeat (first | exact Weak.envNil | refine Weak.envCons (by first | rfl | exact lk_int rfl (by simp [*])) ?_)) (by repeat (first | exact Weak.envNil | refine Weak.envCons rfl ?_)) (by (try dsimp only); (repeat (with_reducible exact Pick.refl _))))
  · rw [if_neg hat] at hcu
    have hend := chainL_end hcu
    rw [hend] at hLl hLr ⊢
    clear hend hcu
    have hins := hiq2 _ rfl
    clear hiq2
    generalize (climb o cs.length (k : Int)).reverse = L at hLl hLr hins ⊢
    repeat' (first | with_reducible refine al_none rfl ?_ | ((with_reducible first | apply o_move | apply o_assign); rfl; rfl) | ((with_reducible apply o_geq); rfl; rfl; rfl) | with_reducible refine aw_seq ?_ | with_reducible refine aw_region ?_ | with_reducible refine al_nil ?_ | with_reducible refine aq_then ?_ | with_reducible refine aw_block ?_ | with_reducible refine aw_exit ?_ | with_reducible refine aq_block_hit ?_ | with_reducible refine aq_then_exit ?_ | (refine aw_cond_df rfl (by with_reducible rfl) (by assumption) ?_))
    apply aw_loopk (X := Nat) [0, 1, 7, 8] (fun q => [(10, .int .i64 (q : Int))]) (fun _ => []) (fun q => q ≤ is.length ∧ ∀ j, j < q → ∀ h : j < is.length, B is[j] = true) (fun q => is.length - q) 0 ⟨Nat.zero_le _, by omega⟩
    (repeat (first | exact Kept.nil | (apply Kept.cons; rfl))); (repeat (first | exact Weak.envNil | refine Weak.envCons (by rfl) ?_))
    · exact .refl _
    rintro q ⟨hq, hqa⟩
    try dsimp only
    by_cases hlt : q < is.length
    · have hra := tinstr_row (lo := lo) hlt
      have hmem : is[q] ∈ is := List.getElem_mem hlt
      have hxq := ht _ hmem
      have hct := hins is[q] hxq (hbf _ hmem) hsl
      have hnx : B is[q] = true → ∀ j, j < q + 1 → ∀ h : j < is.length, B is[j] = true := fun h => below_succ hqa fun _ => h
      have hbad : B is[q] = false → C = false := fun h => hcF fun k => by
        have := k.2.1 _ hmem
        rw [h] at this; cases this
      generalize is[q] = x at hra hct hnx hbad
      cases hBx : B x
      · rw [hBx] at hct
        rw [hbad hBx]
        repeat' (first | with_reducible refine al_none rfl ?_ | ((with_reducible first | apply o_move | apply o_assign | apply o_nilCheck_cp); rfl; rfl) | ((with_reducible apply o_load_cp); rfl; rfl; kernel_rfl; rfl; rfl) | ((with_reducible apply o_fieldAddr); rfl; rfl; kernel_rfl; rfl) | ((with_reducible apply o_indexAddr); rfl; rfl; rfl; kernel_rfl; kernel_rfl; kernel_rfl; rfl; ((with_reducible exact rfl)); ((with_reducible assumption))) | ((with_reducible apply o_len_sl); rfl; rfl; kernel_rfl; (exact List.length_map _)) | ((with_reducible apply o_lss); rfl; rfl; rfl) | ((with_reducible apply o_not_f); rfl; rfl; (with_reducible rfl)) | ((with_reducible apply o_load_agg_cp); rfl; rfl; kernel_rfl; kernel_rfl; kernel_rfl; rfl; (exact .succ _ _ _ _ (.succ _ _ _ _ (.succ _ _ _ _ (.succ _ _ _ _ (.zero _)))))) | ((with_reducible apply o_call); rfl; kernel_rfl; (repeat (first | exact Args.nil | ((with_reducible apply Args.cons); rfl; exact .same _))); exact hG; exact hst; exact hct) | with_reducible refine aw_seq ?_ | with_reducible refine aw_region ?_ | with_reducible refine al_nil ?_ | with_reducible refine aq_then ?_ | with_reducible refine aw_block ?_ | with_reducible refine aw_skip ?_ | with_reducible refine aw_ret ?_ | with_reducible refine aq_then_ret ?_ | with_reducible refine aq_block_ret ?_ | refine aw_cond_t rfl (by with_reducible rfl) ?_ | (refine aw_cond_dt rfl (by with_reducible rfl) (by first | assumption | omega) ?_))
        refine aq_ret1 (by exact .inr rfl) rfl (.tmp _ _ rfl) (fun _ => ?_)
        exact Fin.flat rfl
      · rw [hBx] at hct
        repeat' (first | with_reducible refine al_none rfl ?_ | ((with_reducible first | apply o_move | apply o_assign | apply o_nilCheck_cp); rfl; rfl) | ((with_reducible apply o_load_cp); rfl; rfl; kernel_rfl; rfl; rfl) | ((with_reducible apply o_fieldAddr); rfl; rfl; kernel_rfl; rfl) | ((with_reducible apply o_indexAddr); rfl; rfl; rfl; kernel_rfl; kernel_rfl; kernel_rfl; rfl; ((with_reducible exact rfl)); ((with_reducible assumption))) | ((with_reducible apply o_len_sl); rfl; rfl; kernel_rfl; (exact List.length_map _)) | ((with_reducible apply o_lss); rfl; rfl; rfl) | ((with_reducible apply o_add); rfl; rfl; rfl; (((with_reducible refine w_n1 ?_); omega))) | ((with_reducible apply o_not_t); rfl; rfl; (with_reducible rfl)) | ((with_reducible apply o_load_agg_cp); rfl; rfl; kernel_rfl; kernel_rfl; kernel_rfl; rfl; (exact .succ _ _ _ _ (.succ _ _ _ _ (.succ _ _ _ _ (.succ _ _ _ _ (.zero _)))))) | ((with_reducible apply o_call); rfl; kernel_rfl; (repeat (first | exact Args.nil | ((with_reducible apply Args.cons); rfl; exact .same _))); exact hG; exact hst; exact hct) | with_reducible refine aw_seq ?_ | with_reducible refine aw_region ?_ | with_reducible refine al_nil ?_ | with_reducible refine aq_then ?_ | with_reducible refine aw_block ?_ | with_reducible refine aw_skip ?_ | with_reducible refine aq_block ?_ | refine aw_cond_f rfl (by with_reducible rfl) ?_ | (refine aw_cond_dt rfl (by with_reducible rfl) (by first | assumption | omega) ?_))
        exact aq_round (q + 1) ⟨by omega, hnx hBx⟩ (by omega) (.of _ (by repeat (first | exact Weak.envNil | refine Weak.envCons (by rfl) ?_)) (by repeat (first | exact Weak.envNil | refine Weak.envCons rfl ?_)) (by (try dsimp only); (repeat (with_reducible exact Pick.refl _))))
    · have hall : ∀ y ∈ is, B y = true := fun y hy => by
        obtain ⟨j, hj, rfl⟩ := List.getElem_of_mem hy
        exact hqa j (by omega) hj
      have hp := hpre hall
      have hdep := l16Depths_ct hst hcaS lo lo bl pr sl is hn ht hp
      have hnew := dO_new (depthsS is)
      have hCe : C = (depthsS is).isSome := by
        rw [← depthsL_eq is hp]
        cases hd : (depthsL is).isSome
        · exact hcF fun h => by rw [hd] at h; exact absurd h.2.2 (by simp)
        · exact hcT ⟨⟨h1, h2, h3⟩, hall, hd⟩
      rw [hCe]
      rw [instrs_tw lo] at hdep
      unfold dR dO at hdep hnew
      generalize (depthsS is).getD [] = ds at hdep hnew
      generalize (depthsS is).isSome = ok at hdep hnew ⊢
      repeat' (first | with_reducible refine al_none rfl ?_ | ((with_reducible first | apply o_move | apply o_assign | apply o_nilCheck_cp); rfl; rfl) | ((with_reducible apply o_load_cp); rfl; rfl; kernel_rfl; rfl; rfl) | ((with_reducible apply o_fieldAddr); rfl; rfl; kernel_rfl; rfl) | ((with_reducible apply o_len_sl); rfl; rfl; kernel_rfl; (exact List.length_map _)) | ((with_reducible first | apply o_lss | apply o_extract); rfl; rfl; rfl) | ((with_reducible apply o_callOV); rfl; kernel_rfl; exact hG; exact hst; exact hdep; ((repeat (first | exact Args.nil | ((with_reducible apply Args.cons); rfl; (with_reducible exact View.same _))))); exact hnew; rintro ⟨ss, bb⟩ -; refine al_app1 ?_) | with_reducible refine aw_seq ?_ | with_reducible refine aw_region ?_ | with_reducible refine al_nil ?_ | with_reducible refine aq_then ?_ | with_reducible refine aw_exit ?_ | with_reducible refine aw_ret ?_ | with_reducible refine aq_block_hit ?_ | with_reducible refine aq_then_exit ?_ | (refine aw_cond_df rfl (by with_reducible rfl) (by first | assumption | omega) ?_))
      refine aq_ret1 (by exact .inr rfl) rfl (.tmp _ _ rfl) (fun _ => ?_)
      exact Fin.flat rfl
end Go.Proofs.YtdeokcbbjibkoaaGreatDoor
/- IsVerified: the classes, on the side of the reference (l8IsClasses). -/
namespace Go.Proofs.YtdeokcbbjibkoaaGreatDoor
open Go Go.RowKit
section
variable {G : World → Prop}
set_option maxRecDepth 4000 in
set_option maxHeartbeats 4000000 in
theorem l8IsClasses_ct (hst : Stable G) (lo : Nat) (l : List TClassInfo) (hsm : l.length ≤ 1048576 ∧ ∀ y ∈ l, TClassInfo.small 1048576 y) : Ct Tryz.prog G 52 [.sl lo 3 (l.map (TClassInfo.tw lo))] (fun _ => .bool (classesOkB l)) := by
  refine ct_enter Tryz.func52 rfl Tryz.ntmps52 rfl rfl fun w0 _ hG => ?_
  have hlen := TClassInfo.len lo l
  have hbl := TClassInfo.len w0.heap.size builtinL
  rw [builtin_len] at hbl
  have hl1 := hsm.1
  by_cases hl : 16 ≤ l.length ∧ l.length ≤ 24
  · repeat' (first | with_reducible refine al_none rfl ?_ | ((with_reducible first | apply o_move | apply o_assign); rfl; rfl) | ((with_reducible apply o_pick_f); rfl; rfl; (with_reducible rfl); rfl) | ((with_reducible apply o_len_sl); rfl; rfl; kernel_rfl; (exact List.length_map _)) | ((with_reducible first | apply o_lss | apply o_gtr); rfl; rfl; rfl) | ((with_reducible apply o_alloc); rfl; rfl; kernel_rfl; intro ss bb) | ((with_reducible apply o_build); rfl; rfl; (repeat (exact TB.nil _)); kernel_rfl; kernel_rfl) | ((with_reducible apply o_store_mp); rfl; rfl; rfl; kernel_rfl; (repeat (with_reducible exact mh)); ((repeat (first | exact .nil _ | apply Splice.put))); (repeat (with_reducible exact Upd.head _)); kernel_rfl) | ((with_reducible apply o_callV); rfl; kernel_rfl; exact hG; exact hst; exact l8Infos_ct hst [.str ⟨#[]⟩, .bool false, .nils, .nils, .nils]; (apply Args.cons; rfl; exact View.mpSame List.mem_cons_self); exact Args.nil) | with_reducible refine aw_seq ?_ | with_reducible refine aw_region ?_ | with_reducible refine al_nil ?_ | with_reducible refine aq_then ?_ | with_reducible refine aw_block ?_ | with_reducible refine aw_skip ?_ | refine al_run rfl rfl rfl (by with_reducible rfl) ?_ | (refine al_gf rfl rfl rfl (by with_reducible rfl) (by omega) ?_) | (refine aw_cond_df rfl (by with_reducible rfl) (by omega) ?_))
    apply aw_loopk (X := Nat) [0, 4] (fun i => [(5, .int .i64 (i : Int))]) (fun _ => []) (fun i => i ≤ l.length ∧ ∀ j, j < i → ∀ h : j < l.length, classOk l j l[j]) (fun i => l.length - i) 0 ⟨Nat.zero_le _, by simp⟩
    (repeat (first | exact Kept.nil | (apply Kept.cons; rfl))); (repeat (first | exact Weak.envNil | refine Weak.envCons (by rfl) ?_))
    · exact .nil _
    rintro i ⟨hi, hk⟩
    try dsimp only
    by_cases hlt : i < l.length
    · have hra : (l.map (TClassInfo.tw lo))[i]? = some (l[i].tw lo) := row_map hlt
      have hbi := hsm.2 _ (List.getElem_mem hlt)
      have hbad := classesOk_bad hlt
      have hks : classOk l i l[i] → ∀ j, j < i + 1 → ∀ h : j < l.length, classOk l j l[j] := fun ho => below_succ hk fun _ => ho
      generalize l[i] = x at hra hbi hbad hks
      rw [show x.tw lo = [.str x.name, .int .i64 x.parent, .sl lo 1 (strR x.fields)] from rfl] at hra
      by_cases hlow : i < 16
      · obtain ⟨bi, hb, _, _, h3, _⟩ := builtin_at hlow
        have hrb : (builtinL.map (TClassInfo.tw w0.heap.size))[i]? = some [.str bi.name, .int .i64 bi.parent, .sl w0.heap.size 1 (strR bi.fields)] := by rw [List.getElem?_map, hb]; rfl
        rw [classOk_low hlow hb] at hbad hks
        have hbf : bi.fields.length ≤ 1048576 := by rw [← h3]; unfold bfields; split <;> simp
        have heq := l3Texts_ct (G := G) lo w0.heap.size x.fields bi.fields hbi.2.1 hbf
        clear h3
        by_cases ho : x.name = bi.name ∧ x.parent = bi.parent ∧ x.fields = bi.fields
        · have n1 : ¬ x.name ≠ bi.name := fun h => h ho.1
          have n2 : ¬ x.parent ≠ bi.parent := fun h => h ho.2.1
          rw [decide_eq_true ho.2.2] at heq
          repeat' (first | with_reducible refine al_none rfl ?_ | ((with_reducible first | apply o_move | apply o_assign); rfl; rfl) | ((with_reducible apply o_indexAddr); rfl; rfl; rfl; kernel_rfl; kernel_rfl; kernel_rfl; rfl; ((with_reducible exact rfl)); ((with_reducible assumption))) | ((with_reducible apply o_len_sl); rfl; rfl; kernel_rfl; (exact List.length_map _)) | ((with_reducible apply o_lss); rfl; rfl; rfl) | ((with_reducible apply o_add); rfl; rfl; rfl; (((with_reducible refine w_n1 ?_); omega))) | ((with_reducible apply o_load_agg_cp); rfl; rfl; kernel_rfl; kernel_rfl; kernel_rfl; rfl; (exact .succ _ _ _ _ (.succ _ _ _ _ (.succ _ _ _ _ (.zero _))))) | ((with_reducible apply o_alloc); rfl; rfl; kernel_rfl; intro ss bb) | ((with_reducible apply o_store_mp); rfl; rfl; rfl; kernel_rfl; (repeat (with_reducible exact mh)); ((repeat (first | exact .nil _ | apply Splice.put))); (repeat (with_reducible exact Upd.head _)); kernel_rfl) | with_reducible refine aw_draw (by kernel_rfl) (by kernel_rfl) ?_ | with_reducible refine dr_nil ?_ | with_reducible refine dr_none rfl ?_ | refine dr_run rfl rfl rfl (by with_reducible rfl) ?_ | (refine dr_gf rfl rfl rfl (by with_reducible rfl) (by assumption) ?_) | ((with_reducible apply d_move); rfl; rfl) | ((with_reducible apply d_pick_f); rfl; rfl; (with_reducible rfl); rfl) | ((with_reducible apply d_load_cp); rfl; rfl; kernel_rfl; rfl; rfl) | ((with_reducible apply d_load_mp); rfl; rfl; kernel_rfl; rfl; (repeat (with_reducible exact mh)); rfl) | ((with_reducible apply d_fieldAddr); rfl; rfl; kernel_rfl; rfl) | ((with_reducible apply d_indexAddr); rfl; rfl; rfl; kernel_rfl; kernel_rfl; kernel_rfl; rfl; ((with_reducible exact rfl)); ((with_reducible assumption))) | ((with_reducible apply d_neq); rfl; rfl; rfl) | ((with_reducible apply d_not_t); rfl; rfl; (with_reducible rfl)) | ((with_reducible apply d_neq_s); rfl; rfl; rfl) | ((with_reducible apply d_call); rfl; kernel_rfl; (repeat (first | exact Args.nil | ((with_reducible apply Args.cons); rfl; exact .same _))); exact hG; exact hst; exact heq) | with_reducible refine aw_seq ?_ | with_reducible refine aw_region ?_ | with_reducible refine al_nil ?_ | with_reducible refine aq_then ?_ | with_reducible refine aw_block ?_ | with_reducible refine aw_exit ?_ | with_reducible refine aw_skip ?_ | with_reducible refine aq_block_hit ?_ | with_reducible refine aq_then_exit ?_ | refine aw_cond_f rfl (by with_reducible rfl) ?_ | (refine aw_cond_dt rfl (by with_reducible rfl) (by first | assumption | omega) ?_))
          exact aq_round (i + 1) ⟨by omega, hks ho⟩ (by omega) (.of _ (by repeat (first | exact Weak.envNil | refine Weak.envCons (by rfl) ?_)) (by repeat (first | exact Weak.envNil | refine Weak.envCons rfl ?_)) (Pick.nil _))
        · rw [hbad ho]
          clear hks hbad
          by_cases hfe : x.fields = bi.fields
          · rw [decide_eq_true hfe] at heq
            repeat' (first | with_reducible refine al_none rfl ?_ | ((with_reducible first | apply o_move | apply o_assign); rfl; rfl) | ((with_reducible apply o_indexAddr); rfl; rfl; rfl; kernel_rfl; kernel_rfl; kernel_rfl; rfl; ((with_reducible exact rfl)); ((with_reducible assumption))) | ((with_reducible apply o_len_sl); rfl; rfl; kernel_rfl; (exact List.length_map _)) | ((with_reducible apply o_lss); rfl; rfl; rfl) | ((with_reducible apply o_add); rfl; rfl; rfl; (((with_reducible refine w_n1 ?_); omega))) | ((with_reducible apply o_load_agg_cp); rfl; rfl; kernel_rfl; kernel_rfl; kernel_rfl; rfl; (exact .succ _ _ _ _ (.succ _ _ _ _ (.succ _ _ _ _ (.zero _))))) | ((with_reducible apply o_alloc); rfl; rfl; kernel_rfl; intro ss bb) | ((with_reducible apply o_store_mp); rfl; rfl; rfl; kernel_rfl; (repeat (with_reducible exact mh)); ((repeat (first | exact .nil _ | apply Splice.put))); (repeat (with_reducible exact Upd.head _)); kernel_rfl) | with_reducible refine aw_draw (by kernel_rfl) (by kernel_rfl) ?_ | with_reducible refine dr_nil ?_ | with_reducible refine dr_none rfl ?_ | refine dr_run rfl rfl rfl (by with_reducible rfl) ?_ | refine dr_skip rfl rfl rfl (by with_reducible rfl) rfl rfl rfl ?_ | (refine dr_gsplit rfl rfl rfl (by with_reducible rfl) (fun hg => ?_) (fun hg => ?_)) | ((with_reducible apply d_move); rfl; rfl) | ((with_reducible apply d_pick_t); rfl; rfl; (with_reducible rfl); rfl) | ((with_reducible apply d_pick_f); rfl; rfl; (with_reducible rfl); rfl) | ((with_reducible apply d_load_cp); rfl; rfl; kernel_rfl; rfl; rfl) | ((with_reducible apply d_load_mp); rfl; rfl; kernel_rfl; rfl; (repeat (with_reducible exact mh)); rfl) | ((with_reducible apply d_fieldAddr); rfl; rfl; kernel_rfl; rfl) | ((with_reducible apply d_indexAddr); rfl; rfl; rfl; kernel_rfl; kernel_rfl; kernel_rfl; rfl; ((with_reducible exact rfl)); ((with_reducible assumption))) | ((with_reducible apply d_neq); rfl; rfl; rfl) | ((with_reducible apply d_not_t); rfl; rfl; (with_reducible rfl)) | ((with_reducible apply d_neq_s); rfl; rfl; rfl) | ((with_reducible apply d_call); rfl; kernel_rfl; (repeat (first | exact Args.nil | ((with_reducible apply Args.cons); rfl; exact .same _))); exact hG; exact hst; exact heq) | with_reducible refine aw_seq ?_ | with_reducible refine aw_region ?_ | with_reducible refine al_nil ?_ | with_reducible refine aq_then ?_ | with_reducible refine aw_block ?_ | with_reducible refine aw_exit ?_ | with_reducible refine aw_skip ?_ | with_reducible refine aw_ret ?_ | with_reducible refine aq_block_hit ?_ | with_reducible refine aq_then_exit ?_ | with_reducible refine aq_then_ret ?_ | with_reducible refine aq_block_ret ?_ | refine aw_cond_t rfl (by with_reducible rfl) ?_ | refine aw_cond_f rfl (by with_reducible rfl) ?_ | (refine aw_cond_dt rfl (by with_reducible rfl) (by first | assumption | omega) ?_))
            all_goals first
              | (exfalso; exact ho ⟨Decidable.of_not_not (by assumption), Decidable.of_not_not (by assumption), hfe⟩)
              | (refine aq_ret1 (by first | exact .inl rfl | exact .inr rfl) rfl (.tmp _ _ rfl) (fun _ => ?_)
                 exact Fin.flat rfl)
          · rw [decide_eq_false hfe] at heq
            repeat' (first | with_reducible refine al_none rfl ?_ | ((with_reducible first | apply o_move | apply o_assign); rfl; rfl) | ((with_reducible apply o_indexAddr); rfl; rfl; rfl; kernel_rfl; kernel_rfl; kernel_rfl; rfl; ((with_reducible exact rfl)); ((with_reducible assumption))) | ((with_reducible apply o_len_sl); rfl; rfl; kernel_rfl; (exact List.length_map _)) | ((with_reducible apply o_lss); rfl; rfl; rfl) | ((with_reducible apply o_load_agg_cp); rfl; rfl; kernel_rfl; kernel_rfl; kernel_rfl; rfl; (exact .succ _ _ _ _ (.succ _ _ _ _ (.succ _ _ _ _ (.zero _))))) | ((with_reducible apply o_alloc); rfl; rfl; kernel_rfl; intro ss bb) | ((with_reducible apply o_store_mp); rfl; rfl; rfl; kernel_rfl; (repeat (with_reducible exact mh)); ((repeat (first | exact .nil _ | apply Splice.put))); (repeat (with_reducible exact Upd.head _)); kernel_rfl) | with_reducible refine aw_draw (by kernel_rfl) (by kernel_rfl) ?_ | with_reducible refine dr_nil ?_ | with_reducible refine dr_none rfl ?_ | refine dr_run rfl rfl rfl (by with_reducible rfl) ?_ | refine dr_skip rfl rfl rfl (by with_reducible rfl) rfl rfl rfl ?_ | (refine dr_gsplit rfl rfl rfl (by with_reducible rfl) (fun hg => ?_) (fun hg => ?_)) | ((with_reducible apply d_move); rfl; rfl) | ((with_reducible apply d_pick_t); rfl; rfl; (with_reducible rfl); rfl) | ((with_reducible apply d_pick_f); rfl; rfl; (with_reducible rfl); rfl) | ((with_reducible apply d_load_cp); rfl; rfl; kernel_rfl; rfl; rfl) | ((with_reducible apply d_load_mp); rfl; rfl; kernel_rfl; rfl; (repeat (with_reducible exact mh)); rfl) | ((with_reducible apply d_fieldAddr); rfl; rfl; kernel_rfl; rfl) | ((with_reducible apply d_indexAddr); rfl; rfl; rfl; kernel_rfl; kernel_rfl; kernel_rfl; rfl; ((with_reducible exact rfl)); ((with_reducible assumption))) | ((with_reducible apply d_neq); rfl; rfl; rfl) | ((with_reducible apply d_not_f); rfl; rfl; (with_reducible rfl)) | ((with_reducible apply d_neq_s); rfl; rfl; rfl) | ((with_reducible apply d_call); rfl; kernel_rfl; (repeat (first | exact Args.nil | ((with_reducible apply Args.cons); rfl; exact .same _))); exact hG; exact hst; exact heq) | with_reducible refine aw_seq ?_ | with_reducible refine aw_region ?_ | with_reducible refine al_nil ?_ | with_reducible refine aq_then ?_ | with_reducible refine aw_block ?_ | with_reducible refine aw_skip ?_ | with_reducible refine aw_ret ?_ | with_reducible refine aq_then_ret ?_ | with_reducible refine aq_block_ret ?_ | refine aw_cond_t rfl (by with_reducible rfl) ?_ | (refine aw_cond_dt rfl (by with_reducible rfl) (by first | assumption | omega) ?_))
            all_goals
              refine aq_ret1 (by exact .inr rfl) rfl (.tmp _ _ rfl) (fun _ => ?_)
              exact Fin.flat rfl
      · rw [classOk_high hlow] at hbad hks
        obtain ⟨nm, par, fs⟩ := x
        dsimp only at hra hbi hbad hks
        have hx1 : nm.size ≤ 1048576 := hbi.1
        have hx2 : fs.length ≤ 1048576 := hbi.2.1
        have hx3 : ∀ y ∈ fs, ByteArray.size y ≤ 1048576 := hbi.2.2
        have hfl := strR_len fs
        clear hbl
        repeat' (first | with_reducible refine al_none rfl ?_ | ((with_reducible apply o_move); rfl; rfl) | ((with_reducible apply o_indexAddr); rfl; rfl; rfl; kernel_rfl; kernel_rfl; kernel_rfl; rfl; ((with_reducible exact rfl)); ((with_reducible assumption))) | ((with_reducible apply o_len_sl); rfl; rfl; kernel_rfl; (exact List.length_map _)) | ((with_reducible apply o_lss); rfl; rfl; rfl) | ((with_reducible apply o_load_agg_cp); rfl; rfl; kernel_rfl; kernel_rfl; kernel_rfl; rfl; (exact .succ _ _ _ _ (.succ _ _ _ _ (.succ _ _ _ _ (.zero _))))) | ((with_reducible apply o_alloc); rfl; rfl; kernel_rfl; intro ss bb) | ((with_reducible apply o_store_mp); rfl; rfl; rfl; kernel_rfl; (repeat (with_reducible exact mh)); ((repeat (first | exact .nil _ | apply Splice.put))); (repeat (with_reducible exact Upd.head _)); kernel_rfl) | with_reducible refine aw_hold_r (id := 12) ?_ | with_reducible refine aw_seq ?_ | with_reducible refine aw_region ?_ | with_reducible refine al_nil ?_ | with_reducible refine aq_then ?_ | with_reducible refine aw_block ?_ | with_reducible refine aw_skip ?_ | (refine aw_cond_dt rfl (by with_reducible rfl) (by first | assumption | omega) ?_) | (refine aw_cond_df rfl (by with_reducible rfl) (by first | assumption | omega) ?_))
        refine ⟨aw_seq ?_⟩
        generalize ss = s3; generalize bb = b3
        apply aw_join (X := Unit) [0, 4, 5, 6] (fun _ => [(88, .bool (!decide (classHead l i ⟨nm, par, fs⟩)))]) (fun _ => [(s3, b3, .box [.str nm, .int .i64 par, .sl lo 1 (strR fs)])]) (fun _ => True)
        case hk => (repeat (first | exact Kept.nil | (apply Kept.cons; rfl)))
        · repeat' (first | with_reducible refine al_none rfl ?_ | ((with_reducible apply o_move); rfl; rfl) | ((with_reducible apply o_pick_t); rfl; rfl; (with_reducible rfl); rfl) | ((with_reducible apply o_pick_f); rfl; rfl; (with_reducible rfl); rfl) | ((with_reducible apply o_load_mp); rfl; rfl; kernel_rfl; rfl; (repeat (with_reducible exact mh)); rfl) | ((with_reducible apply o_fieldAddr); rfl; rfl; kernel_rfl; rfl) | ((with_reducible apply o_len_sl); rfl; rfl; kernel_rfl; (exact List.length_map _)) | ((with_reducible first | apply o_lss | apply o_gtr); rfl; rfl; rfl) | ((with_reducible apply o_sub); rfl; rfl; rfl; (((with_reducible refine w_nm1 ?_); omega))) | ((with_reducible apply o_not_b); rfl; rfl; (with_reducible rfl)) | ((with_reducible apply o_call); rfl; kernel_rfl; (repeat (first | exact Args.nil | ((with_reducible apply Args.cons); rfl; exact .same _))); exact hG; exact hst; first | exact specIsName_ct hst _ hx1 | exact l1In_ct _ _ _) | with_reducible refine aw_region ?_ | with_reducible refine al_nil ?_ | refine al_run rfl rfl rfl (by with_reducible rfl) ?_ | refine al_skip rfl rfl rfl (by with_reducible rfl) rfl rfl rfl ?_ | refine al_skip2 rfl rfl rfl (by with_reducible rfl) rfl rfl ?_ | (refine al_gsplit rfl rfl rfl (by with_reducible rfl) (fun hg => ?_) (fun hg => ?_)) | (refine al_gsplit_b rfl rfl rfl (by with_reducible rfl) (fun hg => ?_) (fun hg => ?_)))
          all_goals
            refine aq_mid () trivial (.of _ (Weak.envCons (lk_bool rfl ?_) Weak.envNil) (by repeat (first | exact Weak.envNil | refine Weak.envCons rfl ?_)) (by (try dsimp only); (repeat (with_reducible exact Pick.refl _))))
            clear hbad hks hk hra hbi
            simp only [Bool.not_eq_true', Bool.not_eq_false', inR, decide_eq_true_eq, decide_eq_false_iff_not] at *
            by_cases h8 : (8 : Int) < (fs.length : Int)
            all_goals (try simp only [h8, decide_true, decide_false])
            all_goals first
              | (have : classHead l i ⟨nm, par, fs⟩ := ⟨by assumption, by dsimp only; omega, by dsimp only; omega, by dsimp only; omega⟩
                 simp only [decide_eq_true this, Bool.not_true]
                 done)
              | (have : ¬ classHead l i ⟨nm, par, fs⟩ := fun h => by
                   obtain ⟨h1, h2, h3, h4⟩ := h
                   dsimp only at h1 h2 h3 h4
                   first
                     | omega
                     | (simp only [h1] at *; done)
                     | (simp_all; done)
                 simp only [decide_eq_false this, Bool.not_false]
                 done)
        intro _ _
        by_cases hh : classHead l i ⟨nm, par, fs⟩
        · rw [decide_eq_true hh, Bool.not_true]
          have hh2 := hh.2
          obtain ⟨⟨hp0, hp1⟩, _, hf8⟩ := hh2
          dsimp only at hp0 hp1 hf8
          obtain ⟨p, rfl⟩ : ∃ p : Nat, par = p := ⟨par.toNat, by omega⟩
          have hpl : p < l.length := by omega
          have hrp : (l.map (TClassInfo.tw lo))[p]? = some (l[p].tw lo) := row_map hpl
          have hbp := hsm.2 _ (List.getElem_mem hpl)
          have hpf := parentFields_eq (x := ⟨nm, (p : Int), fs⟩) rfl (List.getElem?_eq_getElem hpl)
          generalize l[p] = y at hrp hbp hpf
          obtain ⟨pn, pp, pf⟩ := y
          replace hrp : (l.map (TClassInfo.tw lo))[p]? = some [.str pn, .int .i64 pp, .sl lo 1 (strR pf)] := hrp
          have hx4 : pf.length ≤ 1048576 := hbp.2.1
          have hpl2 := strR_len pf
          repeat' (first | with_reducible refine al_none rfl ?_ | ((with_reducible apply o_assign); rfl; rfl) | with_reducible refine aw_seq ?_ | with_reducible refine aw_region ?_ | with_reducible refine al_nil ?_ | with_reducible refine aq_then ?_ | with_reducible refine aw_block ?_ | with_reducible refine aw_skip ?_ | refine aw_cond_f rfl (by with_reducible rfl) ?_)
          apply aw_loopk (X := Nat) [0, 4, 5, 6] (fun k => [(7, .int .i64 (k : Int))]) (fun _ => [(s3, b3, .box [.str nm, .int .i64 (p : Int), .sl lo 1 (strR fs)])]) (fun k => k ≤ i ∧ ∀ y ∈ l.take k, y.name ≠ nm) (fun k => i - k) 0 ⟨Nat.zero_le _, by simp⟩
          (repeat (first | exact Kept.nil | (apply Kept.cons; rfl))); (repeat (first | exact Weak.envNil | refine Weak.envCons (by rfl) ?_))
          · exact .refl _
          rintro k ⟨hki, hkn⟩
          try dsimp only
          by_cases hlk : k < i
          · have hlk2 : k < l.length := by omega
            have hrk : (l.map (TClassInfo.tw lo))[k]? = some (l[k].tw lo) := row_map hlk2
            have hta := take_all (p := fun y : TClassInfo => y.name ≠ nm) hlk2 hkn
            have hmem : l[k] ∈ l.take i := List.mem_take_iff_getElem.2 ⟨k, by omega, rfl⟩
            generalize l[k] = z at hrk hta hmem
            obtain ⟨zn, zp, zf⟩ := z
            replace hrk : (l.map (TClassInfo.tw lo))[k]? = some [.str zn, .int .i64 zp, .sl lo 1 (strR zf)] := hrk
            by_cases hzn : zn = nm
            · rw [hbad fun h => h.2.1 _ hmem hzn]
              repeat' (first | with_reducible refine al_none rfl ?_ | ((with_reducible first | apply o_move | apply o_assign); rfl; rfl) | ((with_reducible apply o_lss); rfl; rfl; rfl) | with_reducible refine aw_draw (by kernel_rfl) (by kernel_rfl) ?_ | with_reducible refine dr_nil ?_ | with_reducible refine dr_none rfl ?_ | ((with_reducible apply d_move); rfl; rfl) | ((with_reducible apply d_load_cp); rfl; rfl; kernel_rfl; rfl; rfl) | ((with_reducible apply d_load_mp); rfl; rfl; kernel_rfl; rfl; (repeat (with_reducible exact mh)); rfl) | ((with_reducible apply d_fieldAddr); rfl; rfl; kernel_rfl; rfl) | ((with_reducible apply d_indexAddr); rfl; rfl; rfl; kernel_rfl; kernel_rfl; kernel_rfl; rfl; ((with_reducible exact rfl)); ((with_reducible assumption))) | ((with_reducible apply d_eql_s); rfl; rfl; rfl) | with_reducible refine aw_seq ?_ | with_reducible refine aw_region ?_ | with_reducible refine al_nil ?_ | with_reducible refine aq_then ?_ | with_reducible refine aw_block ?_ | with_reducible refine aw_skip ?_ | with_reducible refine aw_ret ?_ | with_reducible refine aq_then_ret ?_ | with_reducible refine aq_block_ret ?_ | (refine aw_cond_dt rfl (by with_reducible rfl) (by first | assumption | omega) ?_))
              refine aq_ret1 (by exact .inr rfl) rfl (.tmp _ _ rfl) (fun _ => ?_)
              exact Fin.flat rfl
            · repeat' (first | with_reducible refine al_none rfl ?_ | ((with_reducible first | apply o_move | apply o_assign); rfl; rfl) | ((with_reducible apply o_lss); rfl; rfl; rfl) | ((with_reducible apply o_add); rfl; rfl; rfl; (((with_reducible refine w_n1 ?_); omega))) | with_reducible refine aw_draw (by kernel_rfl) (by kernel_rfl) ?_ | with_reducible refine dr_nil ?_ | with_reducible refine dr_none rfl ?_ | ((with_reducible apply d_move); rfl; rfl) | ((with_reducible apply d_load_cp); rfl; rfl; kernel_rfl; rfl; rfl) | ((with_reducible apply d_load_mp); rfl; rfl; kernel_rfl; rfl; (repeat (with_reducible exact mh)); rfl) | ((with_reducible apply d_fieldAddr); rfl; rfl; kernel_rfl; rfl) | ((with_reducible apply d_indexAddr); rfl; rfl; rfl; kernel_rfl; kernel_rfl; kernel_rfl; rfl; ((with_reducible exact rfl)); ((with_reducible assumption))) | ((with_reducible apply d_eql_s); rfl; rfl; rfl) | with_reducible refine aw_seq ?_ | with_reducible refine aw_region ?_ | with_reducible refine al_nil ?_ | with_reducible refine aq_then ?_ | with_reducible refine aw_block ?_ | with_reducible refine aw_skip ?_ | with_reducible refine aq_block ?_ | (refine aw_cond_dt rfl (by with_reducible rfl) (by first | assumption | omega) ?_) | (refine aw_cond_df rfl (by with_reducible rfl) (by assumption) ?_))
              exact aq_round (k + 1) ⟨by omega, hta hzn⟩ (by omega) (.of _ (by repeat (first | exact Weak.envNil | refine Weak.envCons (by rfl) ?_)) (by repeat (first | exact Weak.envNil | refine Weak.envCons rfl ?_)) (by (try dsimp only); (repeat (with_reducible exact Pick.refl _))))
          · obtain rfl : k = i := by omega
            clear hlk
            by_cases hhe : pf.length ≤ fs.length ∧ fs.take pf.length = pf
            · have heq := l3Texts_ct (G := G) lo lo (fs.take pf.length) pf (by simp; omega) hx4
              rw [decide_eq_true hhe.2] at heq
              have hsl : (strR fs).take pf.length = strR (fs.take pf.length) := by simp [strR, List.map_take]
              have hle := hhe.1
              repeat' (first | with_reducible refine al_none rfl ?_ | ((with_reducible first | apply o_move | apply o_assign); rfl; rfl) | ((with_reducible apply o_load_cp); rfl; rfl; kernel_rfl; rfl; rfl) | ((with_reducible apply o_load_mp); rfl; rfl; kernel_rfl; rfl; (repeat (with_reducible exact mh)); rfl) | ((with_reducible apply o_fieldAddr); rfl; rfl; kernel_rfl; rfl) | ((with_reducible apply o_indexAddr); rfl; rfl; rfl; kernel_rfl; kernel_rfl; kernel_rfl; rfl; ((with_reducible exact rfl)); ((with_reducible assumption))) | ((with_reducible apply o_len_sl); rfl; rfl; kernel_rfl; (exact List.length_map _)) | ((with_reducible apply o_lss); rfl; rfl; rfl) | with_reducible refine aw_draw (by kernel_rfl) (by kernel_rfl) ?_ | with_reducible refine dr_nil ?_ | with_reducible refine dr_none rfl ?_ | refine dr_run rfl rfl rfl (by with_reducible rfl) ?_ | (refine dr_gf rfl rfl rfl (by with_reducible rfl) (by first | assumption | omega) ?_) | ((with_reducible apply d_move); rfl; rfl) | ((with_reducible apply d_pick_f); rfl; rfl; (with_reducible rfl); rfl) | ((with_reducible apply d_load_cp); rfl; rfl; kernel_rfl; rfl; rfl) | ((with_reducible apply d_load_mp); rfl; rfl; kernel_rfl; rfl; (repeat (with_reducible exact mh)); rfl) | ((with_reducible apply d_fieldAddr); rfl; rfl; kernel_rfl; rfl) | ((with_reducible apply d_indexAddr); rfl; rfl; rfl; kernel_rfl; kernel_rfl; kernel_rfl; rfl; ((with_reducible exact rfl)); ((with_reducible assumption))) | ((with_reducible apply d_len_sl); rfl; rfl; kernel_rfl; (exact List.length_map _)) | ((with_reducible apply d_gtr); rfl; rfl; rfl) | ((with_reducible apply d_not_t); rfl; rfl; (with_reducible rfl)) | ((with_reducible apply d_slice_h_sl); rfl; rfl; rfl; kernel_rfl; kernel_rfl; ((with_reducible exact rfl)); (omega); ((with_reducible assumption))) | ((with_reducible apply d_call); rfl; kernel_rfl; (repeat (first | exact Args.nil | ((with_reducible apply Args.cons); rfl; exact .same _))); exact hG; exact hst; exact heq) | with_reducible refine aw_seq ?_ | with_reducible refine aw_region ?_ | with_reducible refine al_nil ?_ | with_reducible refine aq_then ?_ | with_reducible refine aw_block ?_ | with_reducible refine aw_exit ?_ | with_reducible refine aw_skip ?_ | with_reducible refine aq_block_hit ?_ | with_reducible refine aq_then_exit ?_ | refine aw_cond_f rfl (by with_reducible rfl) ?_ | (refine aw_cond_df rfl (by with_reducible rfl) (by first | assumption | omega) ?_))
              apply aw_loopk (X := Nat) [0, 4, 5, 6] (fun k => [(9, .int .i64 (k : Int))]) (fun _ => [(s3, b3, .box [.str nm, .int .i64 (p : Int), .sl lo 1 (strR fs)])]) (fun k => k ≤ fs.length ∧ ∀ j, j < k → ∀ h : j < fs.length, fieldAt fs j fs[j] = true) (fun k => fs.length - k) 0 ⟨Nat.zero_le _, by omega⟩
              (repeat (first | exact Kept.nil | (apply Kept.cons; rfl))); (repeat (first | exact Weak.envNil | refine Weak.envCons (by rfl) ?_))
              · exact .refl _
              rintro q ⟨hq, hqa⟩
              try dsimp only
              by_cases hqf : q < fs.length
              · have hfr := strR_row hqf
                have hqs := hx3 _ (List.getElem_mem hqf)
                have hqb := fieldsOk_bad hqf
                have hqn : fieldAt fs q fs[q] = true → ∀ j, j < q + 1 → ∀ h : j < fs.length, fieldAt fs j fs[j] = true := fun h => below_succ hqa fun _ => h
                generalize fs[q] = f at hfr hqs hqb hqn
                have hname := specIsName_ct (G := G) hst f hqs
                have hhas := l1Has_ct (G := G) lo (fs.take q) f (by simp; omega)
                have hsq : (strR fs).take q = strR (fs.take q) := by simp [strR, List.map_take]
                have hqle : q ≤ fs.length := hq
                by_cases hqo : fieldAt fs q f = true
                · have hqo2 := hqo
                  unfold fieldAt at hqo2
                  rw [Bool.and_eq_true, Bool.not_eq_true'] at hqo2
                  rw [hqo2.1] at hname
                  rw [hqo2.2] at hhas
                  repeat' (first | with_reducible refine al_none rfl ?_ | ((with_reducible first | apply o_move | apply o_assign); rfl; rfl) | ((with_reducible apply o_load_mp); rfl; rfl; kernel_rfl; rfl; (repeat (with_reducible exact mh)); rfl) | ((with_reducible apply o_fieldAddr); rfl; rfl; kernel_rfl; rfl) | ((with_reducible apply o_len_sl); rfl; rfl; kernel_rfl; (exact List.length_map _)) | ((with_reducible apply o_lss); rfl; rfl; rfl) | ((with_reducible apply o_add); rfl; rfl; rfl; (((with_reducible refine w_n1 ?_); omega))) | with_reducible refine aw_draw (by kernel_rfl) (by kernel_rfl) ?_ | with_reducible refine dr_nil ?_ | with_reducible refine dr_none rfl ?_ | refine dr_run rfl rfl rfl (by with_reducible rfl) ?_ | ((with_reducible apply d_move); rfl; rfl) | ((with_reducible apply d_pick_f); rfl; rfl; (with_reducible rfl); rfl) | ((with_reducible apply d_load_cp); rfl; rfl; kernel_rfl; rfl; rfl) | ((with_reducible apply d_load_mp); rfl; rfl; kernel_rfl; rfl; (repeat (with_reducible exact mh)); rfl) | ((with_reducible apply d_fieldAddr); rfl; rfl; kernel_rfl; rfl) | ((with_reducible apply d_indexAddr); rfl; rfl; rfl; kernel_rfl; kernel_rfl; kernel_rfl; rfl; ((with_reducible exact rfl)); ((with_reducible assumption))) | ((with_reducible apply d_not_t); rfl; rfl; (with_reducible rfl)) | ((with_reducible apply d_slice_h_sl); rfl; rfl; rfl; kernel_rfl; kernel_rfl; ((with_reducible exact rfl)); (omega); ((with_reducible assumption))) | ((with_reducible apply d_call); rfl; kernel_rfl; (repeat (first | exact Args.nil | ((with_reducible apply Args.cons); rfl; exact .same _))); exact hG; exact hst; first | exact hname | exact hhas) | with_reducible refine aw_seq ?_ | with_reducible refine aw_region ?_ | with_reducible refine al_nil ?_ | with_reducible refine aq_then ?_ | with_reducible refine aw_block ?_ | with_reducible refine aw_skip ?_ | with_reducible refine aq_block ?_ | refine aw_cond_f rfl (by with_reducible rfl) ?_ | (refine aw_cond_dt rfl (by with_reducible rfl) (by first | assumption | omega) ?_))
                  exact aq_round (q + 1) ⟨by omega, hqn hqo⟩ (by omega) (.of _ (by repeat (first | exact Weak.envNil | refine Weak.envCons (by rfl) ?_)) (by repeat (first | exact Weak.envNil | refine Weak.envCons rfl ?_)) (by (try dsimp only); (repeat (with_reducible exact Pick.refl _))))
                · rw [hbad fun h => hqb (Bool.eq_false_iff.2 hqo) h.2.2.2]
                  by_cases hqs1 : isNameL f.data.toList = true
                  · have hqs2 : hasS (fs.take q) f = true := by
                      unfold fieldAt at hqo
                      rw [hqs1, Bool.true_and] at hqo
                      simpa using hqo
                    rw [hqs1] at hname
                    rw [hqs2] at hhas
                    repeat' (first | with_reducible refine al_none rfl ?_ | ((with_reducible first | apply o_move | apply o_assign); rfl; rfl) | ((with_reducible apply o_load_mp); rfl; rfl; kernel_rfl; rfl; (repeat (with_reducible exact mh)); rfl) | ((with_reducible apply o_fieldAddr); rfl; rfl; kernel_rfl; rfl) | ((with_reducible apply o_len_sl); rfl; rfl; kernel_rfl; (exact List.length_map _)) | ((with_reducible apply o_lss); rfl; rfl; rfl) | with_reducible refine aw_draw (by kernel_rfl) (by kernel_rfl) ?_ | with_reducible refine dr_nil ?_ | with_reducible refine dr_none rfl ?_ | refine dr_run rfl rfl rfl (by with_reducible rfl) ?_ | ((with_reducible apply d_move); rfl; rfl) | ((with_reducible apply d_pick_f); rfl; rfl; (with_reducible rfl); rfl) | ((with_reducible apply d_load_cp); rfl; rfl; kernel_rfl; rfl; rfl) | ((with_reducible apply d_load_mp); rfl; rfl; kernel_rfl; rfl; (repeat (with_reducible exact mh)); rfl) | ((with_reducible apply d_fieldAddr); rfl; rfl; kernel_rfl; rfl) | ((with_reducible apply d_indexAddr); rfl; rfl; rfl; kernel_rfl; kernel_rfl; kernel_rfl; rfl; ((with_reducible exact rfl)); ((with_reducible assumption))) | ((with_reducible apply d_not_t); rfl; rfl; (with_reducible rfl)) | ((with_reducible apply d_slice_h_sl); rfl; rfl; rfl; kernel_rfl; kernel_rfl; ((with_reducible exact rfl)); (omega); ((with_reducible assumption))) | ((with_reducible apply d_call); rfl; kernel_rfl; (repeat (first | exact Args.nil | ((with_reducible apply Args.cons); rfl; exact .same _))); exact hG; exact hst; first | exact hname | exact hhas) | with_reducible refine aw_seq ?_ | with_reducible refine aw_region ?_ | with_reducible refine al_nil ?_ | with_reducible refine aq_then ?_ | with_reducible refine aw_block ?_ | with_reducible refine aw_skip ?_ | with_reducible refine aw_ret ?_ | with_reducible refine aq_then_ret ?_ | with_reducible refine aq_block_ret ?_ | refine aw_cond_t rfl (by with_reducible rfl) ?_ | (refine aw_cond_dt rfl (by with_reducible rfl) (by first | assumption | omega) ?_))
                    refine aq_ret1 (by exact .inr rfl) rfl (.tmp _ _ rfl) (fun _ => ?_)
                    exact Fin.flat rfl
                  · rw [Bool.eq_false_iff.2 hqs1] at hname
                    repeat' (first | with_reducible refine al_none rfl ?_ | ((with_reducible first | apply o_move | apply o_assign); rfl; rfl) | ((with_reducible apply o_load_mp); rfl; rfl; kernel_rfl; rfl; (repeat (with_reducible exact mh)); rfl) | ((with_reducible apply o_fieldAddr); rfl; rfl; kernel_rfl; rfl) | ((with_reducible apply o_len_sl); rfl; rfl; kernel_rfl; (exact List.length_map _)) | ((with_reducible apply o_lss); rfl; rfl; rfl) | with_reducible refine aw_draw (by kernel_rfl) (by kernel_rfl) ?_ | with_reducible refine dr_nil ?_ | with_reducible refine dr_none rfl ?_ | refine dr_skip rfl rfl rfl (by with_reducible rfl) rfl rfl rfl ?_ | ((with_reducible apply d_move); rfl; rfl) | ((with_reducible apply d_pick_t); rfl; rfl; (with_reducible rfl); rfl) | ((with_reducible apply d_load_cp); rfl; rfl; kernel_rfl; rfl; rfl) | ((with_reducible apply d_load_mp); rfl; rfl; kernel_rfl; rfl; (repeat (with_reducible exact mh)); rfl) | ((with_reducible apply d_fieldAddr); rfl; rfl; kernel_rfl; rfl) | ((with_reducible apply d_indexAddr); rfl; rfl; rfl; kernel_rfl; kernel_rfl; kernel_rfl; rfl; ((with_reducible exact rfl)); ((with_reducible assumption))) | ((with_reducible apply d_not_f); rfl; rfl; (with_reducible rfl)) | ((with_reducible apply d_call); rfl; kernel_rfl; (repeat (first | exact Args.nil | ((with_reducible apply Args.cons); rfl; exact .same _))); exact hG; exact hst; first | exact hname) | with_reducible refine aw_seq ?_ | with_reducible refine aw_region ?_ | with_reducible refine al_nil ?_ | with_reducible refine aq_then ?_ | with_reducible refine aw_block ?_ | with_reducible refine aw_skip ?_ | with_reducible refine aw_ret ?_ | with_reducible refine aq_then_ret ?_ | with_reducible refine aq_block_ret ?_ | refine aw_cond_t rfl (by with_reducible rfl) ?_ | (refine aw_cond_dt rfl (by with_reducible rfl) (by first | assumption | omega) ?_))
                    refine aq_ret1 (by exact .inr rfl) rfl (.tmp _ _ rfl) (fun _ => ?_)
                    exact Fin.flat rfl
              · obtain rfl : q = fs.length := by omega
                repeat' (first | with_reducible refine al_none rfl ?_ | ((with_reducible first | apply o_move | apply o_assign); rfl; rfl) | ((with_reducible apply o_load_mp); rfl; rfl; kernel_rfl; rfl; (repeat (with_reducible exact mh)); rfl) | ((with_reducible apply o_fieldAddr); rfl; rfl; kernel_rfl; rfl) | ((with_reducible apply o_len_sl); rfl; rfl; kernel_rfl; (exact List.length_map _)) | ((with_reducible apply o_lss); rfl; rfl; rfl) | ((with_reducible apply o_add); rfl; rfl; rfl; (((with_reducible refine w_n1 ?_); omega))) | with_reducible refine aw_seq ?_ | with_reducible refine aw_region ?_ | with_reducible refine al_nil ?_ | with_reducible refine aq_then ?_ | with_reducible refine aw_exit ?_ | with_reducible refine aq_block_hit ?_ | with_reducible refine aq_then_exit ?_ | with_reducible refine aq_block ?_ | (refine aw_cond_df rfl (by with_reducible rfl) (by first | assumption | omega) ?_))
                exact aq_round (k + 1) ⟨by omega, hks ⟨hh, hkn, ⟨by rw [hpf]; exact hhe.1, by rw [hpf]; exact hhe.2⟩, fun j hj => hqa j hj hj⟩⟩ (by omega) (.of _ (by repeat (first | exact Weak.envNil | refine Weak.envCons (by rfl) ?_)) (by repeat (first | exact Weak.envNil | refine Weak.envCons rfl ?_)) (Pick.nil _))
            · rw [hbad fun h => hhe (by have := h.2.2.1; unfold heirs at this; rw [hpf] at this; exact this)]
              by_cases hle : pf.length ≤ fs.length
              · have heq := l3Texts_ct (G := G) lo lo (fs.take pf.length) pf (by simp; omega) hx4
                rw [decide_eq_false fun h => hhe ⟨hle, h⟩] at heq
                have hsl : (strR fs).take pf.length = strR (fs.take pf.length) := by simp [strR, List.map_take]
                repeat' (first | with_reducible refine al_none rfl ?_ | ((with_reducible first | apply o_move | apply o_assign); rfl; rfl) | ((with_reducible apply o_load_cp); rfl; rfl; kernel_rfl; rfl; rfl) | ((with_reducible apply o_load_mp); rfl; rfl; kernel_rfl; rfl; (repeat (with_reducible exact mh)); rfl) | ((with_reducible apply o_fieldAddr); rfl; rfl; kernel_rfl; rfl) | ((with_reducible apply o_indexAddr); rfl; rfl; rfl; kernel_rfl; kernel_rfl; kernel_rfl; rfl; ((with_reducible exact rfl)); ((with_reducible assumption))) | ((with_reducible apply o_len_sl); rfl; rfl; kernel_rfl; (exact List.length_map _)) | ((with_reducible apply o_lss); rfl; rfl; rfl) | with_reducible refine aw_draw (by kernel_rfl) (by kernel_rfl) ?_ | with_reducible refine dr_nil ?_ | with_reducible refine dr_none rfl ?_ | refine dr_run rfl rfl rfl (by with_reducible rfl) ?_ | (refine dr_gf rfl rfl rfl (by with_reducible rfl) (by first | assumption | omega) ?_) | ((with_reducible apply d_move); rfl; rfl) | ((with_reducible apply d_pick_f); rfl; rfl; (with_reducible rfl); rfl) | ((with_reducible apply d_load_cp); rfl; rfl; kernel_rfl; rfl; rfl) | ((with_reducible apply d_load_mp); rfl; rfl; kernel_rfl; rfl; (repeat (with_reducible exact mh)); rfl) | ((with_reducible apply d_fieldAddr); rfl; rfl; kernel_rfl; rfl) | ((with_reducible apply d_indexAddr); rfl; rfl; rfl; kernel_rfl; kernel_rfl; kernel_rfl; rfl; ((with_reducible exact rfl)); ((with_reducible assumption))) | ((with_reducible apply d_len_sl); rfl; rfl; kernel_rfl; (exact List.length_map _)) | ((with_reducible apply d_gtr); rfl; rfl; rfl) | ((with_reducible apply d_not_f); rfl; rfl; (with_reducible rfl)) | ((with_reducible apply d_slice_h_sl); rfl; rfl; rfl; kernel_rfl; kernel_rfl; ((with_reducible exact rfl)); (omega); ((with_reducible assumption))) | ((with_reducible apply d_call); rfl; kernel_rfl; (repeat (first | exact Args.nil | ((with_reducible apply Args.cons); rfl; exact .same _))); exact hG; exact hst; exact heq) | with_reducible refine aw_seq ?_ | with_reducible refine aw_region ?_ | with_reducible refine al_nil ?_ | with_reducible refine aq_then ?_ | with_reducible refine aw_exit ?_ | with_reducible refine aw_ret ?_ | with_reducible refine aq_block_hit ?_ | with_reducible refine aq_then_exit ?_ | with_reducible refine aq_then_ret ?_ | with_reducible refine aq_block_ret ?_ | refine aw_cond_t rfl (by with_reducible rfl) ?_ | (refine aw_cond_df rfl (by with_reducible rfl) (by first | assumption | omega) ?_))
                refine aq_ret1 (by exact .inr rfl) rfl (.tmp _ _ rfl) (fun _ => ?_)
                exact Fin.flat rfl
              · repeat' (first | with_reducible refine al_none rfl ?_ | ((with_reducible first | apply o_move | apply o_assign); rfl; rfl) | ((with_reducible apply o_load_cp); rfl; rfl; kernel_rfl; rfl; rfl) | ((with_reducible apply o_load_mp); rfl; rfl; kernel_rfl; rfl; (repeat (with_reducible exact mh)); rfl) | ((with_reducible apply o_fieldAddr); rfl; rfl; kernel_rfl; rfl) | ((with_reducible apply o_indexAddr); rfl; rfl; rfl; kernel_rfl; kernel_rfl; kernel_rfl; rfl; ((with_reducible exact rfl)); ((with_reducible assumption))) | ((with_reducible apply o_len_sl); rfl; rfl; kernel_rfl; (exact List.length_map _)) | ((with_reducible apply o_lss); rfl; rfl; rfl) | with_reducible refine aw_draw (by kernel_rfl) (by kernel_rfl) ?_ | with_reducible refine dr_nil ?_ | with_reducible refine dr_none rfl ?_ | refine dr_skip rfl rfl rfl (by with_reducible rfl) rfl rfl rfl ?_ | (refine dr_gt rfl rfl rfl (by with_reducible rfl) (by first | assumption | omega) ?_) | ((with_reducible apply d_move); rfl; rfl) | ((with_reducible apply d_pick_t); rfl; rfl; (with_reducible rfl); rfl) | ((with_reducible apply d_load_mp); rfl; rfl; kernel_rfl; rfl; (repeat (with_reducible exact mh)); rfl) | ((with_reducible apply d_fieldAddr); rfl; rfl; kernel_rfl; rfl) | ((with_reducible apply d_len_sl); rfl; rfl; kernel_rfl; (exact List.length_map _)) | ((with_reducible apply d_gtr); rfl; rfl; rfl) | with_reducible refine aw_seq ?_ | with_reducible refine aw_region ?_ | with_reducible refine al_nil ?_ | with_reducible refine aq_then ?_ | with_reducible refine aw_exit ?_ | with_reducible refine aw_ret ?_ | with_reducible refine aq_block_hit ?_ | with_reducible refine aq_then_exit ?_ | with_reducible refine aq_then_ret ?_ | with_reducible refine aq_block_ret ?_ | refine aw_cond_t rfl (by with_reducible rfl) ?_ | (refine aw_cond_df rfl (by with_reducible rfl) (by first | assumption | omega) ?_))
                refine aq_ret1 (by exact .inr rfl) rfl (.tmp _ _ rfl) (fun _ => ?_)
                exact Fin.flat rfl
        · rw [decide_eq_false hh, Bool.not_false, hbad fun h => hh h.1]
          repeat' (first | with_reducible refine al_none rfl ?_ | ((with_reducible apply o_assign); rfl; rfl) | with_reducible refine aw_seq ?_ | with_reducible refine aw_region ?_ | with_reducible refine al_nil ?_ | with_reducible refine aq_then ?_ | with_reducible refine aw_ret ?_ | with_reducible refine aq_then_ret ?_ | with_reducible refine aq_block_ret ?_ | refine aw_cond_t rfl (by with_reducible rfl) ?_)
          refine aq_ret1 (by exact .inr rfl) rfl (.tmp _ _ rfl) (fun _ => ?_)
          exact Fin.flat rfl
    · rw [classesOk_good hl fun j hj => hk j (by omega)]
      repeat' (first | with_reducible refine al_none rfl ?_ | ((with_reducible first | apply o_move | apply o_assign); rfl; rfl) | ((with_reducible apply o_len_sl); rfl; rfl; kernel_rfl; (exact List.length_map _)) | ((with_reducible apply o_lss); rfl; rfl; rfl) | with_reducible refine aw_seq ?_ | with_reducible refine aw_region ?_ | with_reducible refine al_nil ?_ | with_reducible refine aq_then ?_ | with_reducible refine aw_exit ?_ | with_reducible refine aw_ret ?_ | with_reducible refine aq_block_hit ?_ | with_reducible refine aq_then_exit ?_ | (refine aw_cond_df rfl (by with_reducible rfl) (by first | assumption | omega) ?_))
      refine aq_ret1 (by exact .inr rfl) rfl (.tmp _ _ rfl) (fun _ => ?_)
      exact Fin.flat rfl
  · rw [classesOk_len hl]
    repeat' (first | with_reducible refine al_none rfl ?_ | ((with_reducible first | apply o_move | apply o_assign); rfl; rfl) | ((with_reducible apply o_pick_t); rfl; rfl; (with_reducible rfl); rfl) | ((with_reducible apply o_pick_f); rfl; rfl; (with_reducible rfl); rfl) | ((with_reducible apply o_len_sl); rfl; rfl; kernel_rfl; (exact List.length_map _)) | ((with_reducible first | apply o_lss | apply o_gtr); rfl; rfl; rfl) | with_reducible refine aw_seq ?_ | with_reducible refine aw_region ?_ | with_reducible refine al_nil ?_ | with_reducible refine aq_then ?_ | with_reducible refine aw_ret ?_ | with_reducible refine aq_then_ret ?_ | refine al_run rfl rfl rfl (by with_reducible rfl) ?_ | refine al_skip rfl rfl rfl (by with_reducible rfl) rfl rfl rfl ?_ | (refine al_gsplit rfl rfl rfl (by with_reducible rfl) (fun hg => ?_) (fun hg => ?_)) | refine aw_cond_t rfl (by with_reducible rfl) ?_ | (refine aw_cond_dt rfl (by with_reducible rfl) (by first | assumption | omega) ?_))
    all_goals first
      | (exfalso; omega)
      | (refine aq_ret1 (by first | exact .inl rfl | exact .inr rfl) rfl (.tmp _ _ rfl) (fun _ => ?_)
         exact Fin.flat rfl)
end
end Go.Proofs.YtdeokcbbjibkoaaGreatDoor
