/- Part 16 of the proof: the texts EngN, EngQ, EngP, EngM, EngAE. -/
import Derived.Test.YtiihihgjiklnoaaGreatDoorPart15
import Derived.Laws.RangeString
import Derived.Test.YtiihihgjiklnoaaGreatDoorPart2
import Derived.Lib.AppendStr
import Derived.Laws.StructEq
/- The abstract walk, part 20: a region that draws its order in which one variable is made, anywhere, and is set at the end. -/
namespace Go.Proofs.YtiihihgjiklnoaaGreatDoor
open Go Go.RowKit
/-- Quiet operations, whatever the call owns. -/
inductive DU (P : Program) (w0 : World) (N : Nat) (K : Env → Prop) : List Oper → Env → Prop
  | nil (env : Env) (h : K env) : DU P w0 N K [] env
  | run (o : Oper) (rest : List Oper) (env : Env) (d : Nat) (tv : TV) (hd : o.dst = some d) (hN : Nat.blt d N = true) (hg : o.guard = none) (hy : ∀ objs, Yields P w0 env objs o tv) (h : DU P w0 N K rest ((d, tv) :: env)) : DU P w0 N K (o :: rest) env
section
variable {P : Program} {w0 : World} {N : Nat} {Q : Exit → Act → World → Prop} {objs : Objs} {ops : Array Oper} {env : Env}
theorem du_steps {K : Env → Prop} {l : List Oper} {env : Env} (h : DU P w0 N K l env) : ∃ σ : Nat → Env, (∀ t, lk t (σ 0) = lk t env) ∧ K (σ l.length) ∧ ∀ k o, l[k]? = some o → ∀ objs, StepAt P w0 N ops objs o (σ k) (σ (k + 1)) := by
  induction h with
  | nil env h => exact ⟨fun _ => env, fun _ => rfl, h, by simp⟩
  | run o rest env d tv hd hN hg hy h ih =>
    obtain ⟨σ, h1, h2, h3⟩ := ih
    refine ⟨fun k => match k with | 0 => env | k + 1 => σ k, fun _ => rfl, h2, fun k o' hk objs => ?_⟩
    cases k with
    | zero => simp at hk; subst hk; exact ⟨d, tv, hd, Nat.blt_eq ▸ hN, h1, .inl ⟨.inl hg, hy objs⟩⟩
    | succ k => exact h3 k o' (by simpa using hk) objs
theorem jy_step2 {objs' : Objs} (hok : drawOk ops = true) {k : Nat} (hk : k ≤ ops.size) {σ : Nat → Env} {X : Nat → Prop} {a : Act} {w w' : World} (hJ : JY w0 N ops objs σ k X a w) (hX : Closed ops X) (_hXk : ∀ i, X i → i < k) {i d : Nat} {o : Oper} {tv : TV} {v : Value} (hi : ops[i]? = some o) (hik : i < k) (hni : ¬ X i) (hd : o.dst = some d) (hdN : d < N)
    (hσ : ∀ i o, i < k → ops[i]? = some o → StepAt P w0 N ops objs o (σ i) (σ (i + 1))) (hσi : ∀ t, lk t (σ (i + 1)) = lk t ((d, tv) :: σ i)) (hr : Rep w' objs' tv v) (hw : SimW w0 objs' w') (hst : Step w objs w' objs') : JY w0 N ops objs' σ k (fun k => k = i ∨ X k) (a.put (some d) v) w' := by
  refine ⟨hJ.defers, by simp [Act.put, hJ.size], hw, fun t c hc h1 h2 u hu => ?_⟩
  show Rep w' objs' u ((a.tmps.setIfInBounds d v).getD t undef)
  rw [getD_set (by rw [hJ.size]; exact hdN)]
  by_cases hdt : d = t
  · subst hdt
    rw [if_pos rfl]
    have hwi : Writes ops i d := by unfold Writes; rw [hi]; exact hd
    have hic : i < c := Nat.lt_of_not_le fun h => h2 i h hik hwi (.inl rfl)
    have hlast : ∀ m, i + 1 ≤ m → m ≤ c → lk d (σ m) = some tv := fun m => by
      induction m with
      | zero => intro h; omega
      | succ m ih =>
        intro hm1 hm2
        rcases Nat.eq_or_lt_of_le hm1 with h | h
        · have : m = i := by omega
          subst this; rw [hσi, lk_cons, if_pos rfl]
        · have hm : m < ops.size := by omega
          have hom : ops[m]? = some ops[m] := by simp [hm]
          obtain ⟨dm, tm, e1, _, e2, _⟩ := hσ m _ (by omega) hom
          rw [e2, lk_cons, if_neg]
          · exact ih (by omega) (by omega)
          · intro e
            subst e
            have hwm : Writes ops m dm := by unfold Writes; rw [hom]; exact e1
            rcases h1 m (by omega) hwm with h3 | h3
            · omega
            · exact hni (apart_or hok hi hom (by omega) (not_apart_both hd e1) hX h3)
    rw [hlast c hic (Nat.le_refl _)] at hu
    simp only [Option.some.injEq] at hu
    subst hu; exact hr
  · rw [if_neg hdt]
    refine (hJ.cut t c hc (fun m hm hwm => ?_) (fun m hm hmk hwm hx => h2 m hm hmk hwm (.inr hx)) u hu).step hst
    rcases h1 m hm hwm with h3 | h3
    · subst h3
      unfold Writes at hwm
      rw [hi] at hwm
      simp only [Option.bind_some, hd, Option.some.injEq] at hwm
      exact absurd hwm hdt
    · exact h3
/-- A new variable, if one looks away. -/
theorem y_alloc_top {o : Oper} {T : TypeId} {zs : List TV} (ho : o.op = .alloc T) (hz : zeroOk P T = some zs) : Yields P w0 env objs o .top := fun a w K Q hw hop hK => by
  obtain ⟨ss, hf⟩ := site_new objs
  obtain ⟨z, h1, h2, h3⟩ := zero_spec hz w
  have hrun : (execOp a.eval o).run P w = .ok (.value (.pointer (some ⟨w.heap.size, 0, none⟩))) (w.alloc (.cells z.cells T)) := by
    simp only [execOp, ho]
    refine exec_v ?_
    simp [Instr.alloc, Sem.run_bind, h1, newVar, newRow]
  unfold Oper.wp
  rw [hrun]
  obtain ⟨g1, g2⟩ := hw.alloc (.cells z.cells T)
  exact hK _ _ (.top _) g1 g2
theorem alloc_wp {o : Oper} {T : TypeId} {zs : List TV} (ho : o.op = .alloc T) (hz : zeroOk P T = some zs) {a : Act} {w : World} (hw : SimW w0 objs w) {K : Act → World → Prop} (hK : ∀ ss b v w', Rep w' ((ss, b, .box zs) :: objs) (.mp ss b 0) v → SimW w0 ((ss, b, .box zs) :: objs) w' → Step w objs w' ((ss, b, .box zs) :: objs) → K (a.put o.dst v) w') : o.wp P a w K Q := by
  obtain ⟨ss, hf⟩ := site_new objs
  obtain ⟨z, h1, h2, h3⟩ := zero_spec hz w
  have hst := step_new hw z.cells T ss (.box zs)
  have hrun : (execOp a.eval o).run P w = .ok (.value (.pointer (some ⟨w.heap.size, 0, none⟩))) (w.alloc (.cells z.cells T)) := by
    simp only [execOp, ho]
    refine exec_v ?_
    simp [Instr.alloc, Sem.run_bind, h1, newVar, newRow]
  unfold Oper.wp
  rw [hrun]
  refine hK ss w.heap.size _ _ (.mp ss _ 0 ⟨by simp, noMark_new hw #[] 0 ss _⟩) (hw.newObj hf ⟨⟨hw.below.size, h2.2⟩, z.cells, T, heap_alloc_new w _, h2.1, fun j t hj => ?_⟩) hst
  have hlt : j < z.cells.size := by rw [h2.1]; exact (List.getElem?_eq_some_iff.1 hj).1
  exact ⟨z.cells[j], by simp [hlt], h3 _ _ j t _ hj (by simp [hlt])⟩
/-- One operation of many, in whatever order. -/
theorem jx_op (hok : drawOk ops = true) {k : Nat} (hk : k ≤ ops.size) {σ : Nat → Env} {X : Nat → Prop} {a : Act} {w : World} (hJ : JY w0 N ops objs σ k X a w) (hX : Closed ops X) (hXk : ∀ i, X i → i < k) {i : Nat} {o : Oper} (ho : ops[i]? = some o) (hik : i < k) (hni : ¬ X i) (hX' : Closed ops fun k => k = i ∨ X k)
    (hσ : ∀ i o, i < k → ops[i]? = some o → StepAt P w0 N ops objs o (σ i) (σ (i + 1))) {K : Act → World → Prop} (hnext : ∀ d v w', o.dst = some d → d < N → Step w objs w' objs → JY w0 N ops objs σ k (fun k => k = i ∨ X k) (a.put (some d) v) w' → K (a.put (some d) v) w') : wpOp P ops Q i K a w := by
  obtain ⟨d, tv, hd, hdN, hσi, hcase⟩ := hσ i o hik ho
  have hguard : ∀ j b c dj, o.guard = some (j, b) → (ops[j]?).bind (·.dst) = some dj → lk dj (σ i) = some (.bool c) → yielded ops a.tmps j = some c := fun j b c dj h1 h2 h3 => by
    have hl : dj ∈ o.looksAt ops := by unfold Oper.looksAt; rw [h1]; simp [h2]
    exact yielded_eq h2 (jy_read hok hk hJ hX hXk ho hik hni hX' hl h3).bool_inv
  unfold wpOp
  rw [ho]
  rcases hcase with ⟨hg, hy⟩ | ⟨hg, rfl⟩
  · have hw : Region.wanted o (yielded ops a.tmps) = true := by
      rcases hg with hg | ⟨j, b, dj, h1, h2, h3⟩
      · simp [Region.wanted, hg]
      · simp [Region.wanted, h1, hguard j b b dj h1 h2 h3]
    simp only [hw, if_true]
    refine .inl (hy a w _ Q hJ.mem (fun x hx v hv => ?_) fun v w' hr hsw hst => ?_)
    · cases x with
      | tmp t =>
        have hl : t ∈ o.looksAt ops := by
          unfold Oper.looksAt
          exact List.mem_append_left _ (List.mem_filterMap.2 ⟨.tmp t, hx, rfl⟩)
        exact jy_read hok hk hJ hX hXk ho hik hni hX' hl hv
      | const u => exact tvOf_rep hv
      | func f => simp only [ev, Option.some.injEq] at hv; subst hv; exact .fn f [] #[] rfl (by simp)
      | global g => cases hv
    · rw [hd]
      exact hnext d v w' hd hdN hst (jy_step hok hk hJ hX hXk ho hik hni hd hdN hσ hσi hr hsw hst)
  · have hw : Region.wanted o (yielded ops a.tmps) = false := by
      rcases hg with ⟨j, b, dj, h1, h2, h3⟩ | ⟨j, c, dj, h1, h2, h3⟩
      · cases b <;> simp [Region.wanted, h1, hguard j _ _ dj h1 h2 h3]
      · have hl : dj ∈ o.looksAt ops := by unfold Oper.looksAt; rw [h1]; simp [h2]
        simp [Region.wanted, h1, yielded_undef h2 (jy_read hok hk hJ hX hXk ho hik hni hX' hl h3).undef_inv]
    simp only [hw, Bool.false_eq_true, if_false]
    rw [hd]
    exact hnext d _ w hd hdN (step_refl _ _) (jy_step hok hk hJ hX hXk ho hik hni hd hdN hσ hσi (.tup [] #[] rfl (by simp)) hJ.mem (step_refl _ _))
/-- What holds when X of the first k operations has been carried out, the making of the variable among them or not. -/
def JZ (w0 : World) (N : Nat) (ops : Array Oper) (objs : Objs) (σ : Nat → Env) (k ia d : Nat) (zs : List TV) (X : Nat → Prop) (a : Act) (w : World) : Prop :=
  (¬ X ia ∧ JY w0 N ops objs σ k X a w) ∨ (X ia ∧ ∃ ss b, JY w0 N ops ((ss, b, .box zs) :: objs) σ k X a w ∧ Rep w ((ss, b, .box zs) :: objs) (.mp ss b 0) (a.tmps.getD d undef))
theorem JZ.congr {σ : Nat → Env} {k ia d : Nat} {zs : List TV} {X Y : Nat → Prop} {a : Act} {w : World} (h : JZ w0 N ops objs σ k ia d zs X a w) (hXY : ∀ i, Y i ↔ X i) : JZ w0 N ops objs σ k ia d zs Y a w := by
  have : Y = X := funext fun i => propext (hXY i)
  rw [this]; exact h
theorem jz_start (hok : drawOk ops = true) {k : Nat} (hk : k ≤ ops.size) (htl : tailOk ops k = true) {σ : Nat → Env} {ia d : Nat} {zs : List TV} (hia : ia < k) (hQ : ∀ ss b, AL P w0 N ops Q (ops.toList.drop k) ((d, .mp ss b 0) :: σ k) ((ss, b, .box zs) :: objs)) {fuel : Nat} {listed : Array Bool} {a : Act} {w : World} (hsz : listed.size = ops.size) (hun : unlisted listed ≤ fuel) (hXk : ∀ i, listed.getD i false = true → i < k)
    (hall : ∀ j, j < k → listed.getD j false = true) (hJ : JZ w0 N ops objs σ k ia d zs (fun i => listed.getD i false = true) a w) : wpAny P .any ops Q fuel listed a w := by
  rcases hJ with ⟨hn, _⟩ | ⟨_, ss, b, hJ, hr⟩
  · exact absurd (hall ia hia) hn
  · refine seq_start (σ := fun c => if c = k then (d, .mp ss b 0) :: σ k else σ c) hok hk htl (by rw [if_pos rfl]; exact hQ ss b) hsz hun hXk hall ⟨hJ.defers, hJ.size, hJ.mem, fun t c hc h1 h2 v hv => ?_⟩
    split at hv
    · rename_i hck
      subst hck
      rw [lk_cons] at hv
      split at hv
      · rename_i hdt
        subst hdt
        cases hv
        exact hr
      · exact hJ.cut t c hc h1 h2 v hv
    · exact hJ.cut t c hc h1 h2 v hv
theorem any_of_jx3 (hok : drawOk ops = true) {k : Nat} (hk : k ≤ ops.size) (htl : tailOk ops k = true) {σ : Nat → Env} {ia d : Nat} {T : TypeId} {zs : List TV} {oa : Oper} (hia : ia < k) (hoa : ops[ia]? = some oa) (hop : oa.op = .alloc T) (hda : oa.dst = some d) (hdN : d < N) (hz : zeroOk P T = some zs) (hga : oa.guard = none)
    (hother : ∀ j o, j < k → ops[j]? = some o → j ≠ ia → o.dst ≠ some d) (hσ : ∀ i o, i < k → ops[i]? = some o → ∀ objs, StepAt P w0 N ops objs o (σ i) (σ (i + 1))) (hσa : ∀ t, lk t (σ (ia + 1)) = lk t ((d, .top) :: σ ia)) (hQ : ∀ ss b, AL P w0 N ops Q (ops.toList.drop k) ((d, .mp ss b 0) :: σ k) ((ss, b, .box zs) :: objs)) :
    ∀ (fuel : Nat) (listed : Array Bool) (a : Act) (w : World), listed.size = ops.size → unlisted listed ≤ fuel → (∀ i, listed.getD i false = true → i < k) → Closed ops (fun i => listed.getD i false = true) → JZ w0 N ops objs σ k ia d zs (fun i => listed.getD i false = true) a w → wpAny P .any ops Q fuel listed a w := by
  intro fuel
  induction fuel with
  | zero =>
    intro listed a w hsz hun hXk hX hJ
    by_cases hall : ∀ j, j < k → listed.getD j false = true
    · exact jz_start hok hk htl hia hQ hsz hun hXk hall hJ
    · exfalso
      apply hall
      intro j hj
      cases hb : listed.getD j false with
      | true => rfl
      | false =>
        exfalso
        have hjl : j < listed.size := by omega
        have : listed[j] ∈ listed.toList.filter (! ·) := List.mem_filter.2 ⟨by simp, by
          simp only [Array.getD_eq_getD_getElem?, Array.getElem?_eq_getElem hjl, Option.getD_some] at hb; simp [hb]⟩
        have := List.length_pos_of_mem this
        unfold unlisted at hun; omega
  | succ fuel ih =>
    intro listed a w hsz hun hXk hX hJ
    by_cases hall : ∀ j, j < k → listed.getD j false = true
    · exact jz_start hok hk htl hia hQ hsz hun hXk hall hJ
    have hsome : ∃ j, j < k ∧ ¬ listed.getD j false = true := by
      refine Classical.byContradiction fun hn => hall fun j hj => Classical.byContradiction fun h => hn ⟨j, hj, h⟩
    refine ⟨fun hr => ?_, fun i hi => ?_⟩
    · exfalso
      have hall2 : ∀ j, j < ops.size → listed.getD j false = true := by
        intro j
        induction j using Nat.strongRecOn with
        | _ j ih =>
          intro hj
          cases hb : listed.getD j false with
          | true => rfl
          | false =>
            have hoj : ops[j]? = some ops[j] := by simp [hj]
            have hmem : j ∈ Region.ready .any ops listed := mem_ready.2 ⟨by
              have hjl : j < listed.size := by omega
              simp only [Array.getD_eq_getD_getElem?, Array.getElem?_eq_getElem hjl, Option.getD_some] at hb ⊢; exact hb, _, hoj, fun e he hbd => ih e.on ((drawOk_spec hok hoj).1 e he hbd) (Nat.lt_trans ((drawOk_spec hok hoj).1 e he hbd) hj)⟩
            rw [hr] at hmem; cases hmem
      obtain ⟨j, hj, hnj⟩ := hsome
      exact hnj (hall2 j (by omega))
    · obtain ⟨h0, o, ho, hed⟩ := mem_ready.1 hi
      have hisz : i < ops.size := (Array.getElem?_eq_some_iff.1 ho).1
      have hil : i < listed.size := by rw [hsz]; exact hisz
      have h0' : listed[i] = false := by simpa [Array.getD_eq_getD_getElem?, hil] using h0
      have hni : ¬ listed.getD i false = true := by simp [hil, h0']
      have hXeq : ∀ k, (listed.setIfInBounds i true).getD k false = true ↔ (k = i ∨ listed.getD k false = true) := fun k => by
        by_cases hk : k = i
        · subst hk; simp [hil]
        · rw [getD_set_ne false (Ne.symm hk)]; simp [hk]
      have hX' : Closed ops fun k => k = i ∨ listed.getD k false = true := fun j oj hj hx e he hb => by
        rcases hx with rfl | hx
        · rw [hj] at ho; cases ho; exact .inr (hed e he hb)
        · exact .inr (hX j oj hj hx e he hb)
      have hik : i < k := Nat.lt_of_not_le fun hge => by
        obtain ⟨j, hj, hnj⟩ := hsome
        have := closed_reach hok hX' i hisz (.inl rfl) j (by omega) (tailOk_spec htl hisz hge (by omega))
        rcases this with h | h
        · omega
        · exact hnj h
      have hXs : Closed ops fun k => (listed.setIfInBounds i true).getD k false = true := fun j oj hj hx e he hb => (hXeq _).2 (hX' j oj hj ((hXeq _).1 hx) e he hb)
      have hun' : unlisted (listed.setIfInBounds i true) ≤ fuel := by
        have key : ∀ (l : List Bool) (i : Nat), l[i]? = some false → ((l.set i true).filter (! ·)).length + 1 = (l.filter (! ·)).length := fun l => by
          induction l with
          | nil => intro i h; simp at h
          | cons x l ih =>
            intro i h
            cases i with
            | zero => simp at h; subst h; simp
            | succ i =>
              have := ih i (by simpa using h)
              cases x <;> simp at this ⊢ <;> omega
        have := key listed.toList i (by simp [hil, h0'])
        unfold unlisted at hun ⊢
        simp only [Array.toList_setIfInBounds]
        omega
      have hnext : ∀ a' w', JZ w0 N ops objs σ k ia d zs (fun k => k = i ∨ listed.getD k false = true) a' w' → wpAny P .any ops Q fuel (listed.setIfInBounds i true) a' w' := fun a' w' hJ' =>
        ih _ a' w' (by simpa using hsz) hun' (fun j hj => ((hXeq j).1 hj).elim (fun e => e ▸ hik) (hXk j)) hXs (hJ'.congr hXeq)
      rcases hJ with ⟨hn, hJ⟩ | ⟨hy, ss, b, hJ, hrep⟩
      · by_cases hii : i = ia
        · subst hii
          rw [hoa] at ho
          cases ho
          unfold wpOp
          rw [hoa]
          have hw : Region.wanted oa (yielded ops a.tmps) = true := by simp [Region.wanted, hga]
          simp only [hw, if_true]
          refine .inl (alloc_wp hop hz hJ.mem fun ss b v w' hr hsw hst => ?_)
          rw [hda]
          refine hnext _ _ (.inr ⟨.inl rfl, ss, b, jy_step2 hok hk hJ hX hXk hoa hik hni hda hdN (fun i o h1 h2 => hσ i o h1 h2 objs) hσa (.top v) hsw hst, ?_⟩)
          show Rep w' _ _ ((a.tmps.setIfInBounds d v).getD d undef)
          rw [getD_set (by rw [hJ.size]; exact hdN), if_pos rfl]
          exact hr
        · refine jx_op hok hk hJ hX hXk ho hik hni hX' (fun i o h1 h2 => hσ i o h1 h2 objs) fun d' v w' _ _ hst hJ' => hnext _ _ (.inl ⟨fun h => ?_, hJ'⟩)
          rcases h with h | h
          · exact hii h.symm
          · exact hn h
      · have hii : i ≠ ia := fun h => hni (h ▸ hy)
        refine jx_op hok hk hJ hX hXk ho hik hni hX' (fun i o h1 h2 => hσ i o h1 h2 _) fun d' v w' hd' hd'N hst hJ' => hnext _ _ (.inr ⟨.inr hy, ss, b, hJ', ?_⟩)
        show Rep w' _ _ ((a.tmps.setIfInBounds d' v).getD d undef)
        rw [getD_set (by rw [hJ.size]; exact hd'N), if_neg (fun h => hother i o hik ho hii (by rw [hd', h]))]
        exact hrep.step hst

/-- A region that draws its order: quiet operations (l1), the making of a variable, then the rest in order. -/
theorem aw_draw3 (k : Nat) {id d : Nat} {l l1 l2 : List Oper} {oa : Oper} {T : TypeId} {zs : List TV} {env : Env} (hm : P.follows .mixedOrders = true) (hok : drawOk l.toArray = true) (htl : tailOk l.toArray (k + 1) = true) (hc : Cut k l l1 (oa :: l2)) (hop : oa.op = .alloc T) (hda : oa.dst = some d) (hga : oa.guard = none) (hdN : Nat.blt d N = true) (_he : zT T = zs) (hz : zeroOk P T = some zs)
    (hno : (l1.all fun o => !(o.dst == some d)) = true) (h : DU P w0 N (fun env' => ∀ ss b, AL P w0 N l.toArray Q l2 ((d, .mp ss b 0) :: env') ((ss, b, .box zs) :: objs)) l1 env) : AW P w0 N (.region id l.toArray true) Q env objs := ⟨fun a w hs => by
  obtain ⟨e1, e2, hkl⟩ := hc.eq
  have hkl2 : k < l.length := Nat.lt_of_not_le fun hge => by rw [List.drop_of_length_le hge] at e2; cases e2
  have hd2 : l.drop (k + 1) = l2 := by
    rw [List.drop_eq_getElem_cons hkl2] at e2
    exact (List.cons.inj e2).2.symm
  have hoa : l[k]? = some oa := by
    rw [List.drop_eq_getElem_cons hkl2] at e2
    rw [List.getElem?_eq_getElem hkl2, (List.cons.inj e2).1]
  obtain ⟨σ0, h1, h2, h3⟩ := du_steps (ops := l.toArray) h
  have hl1 : l1.length = k := by rw [e1, List.length_take]; omega
  rw [hl1] at h2
  have hdN' : d < N := Nat.blt_eq ▸ hdN
  -- the chain, with the variable's slot unknown behind its making
  have hσ : ∃ σ : Nat → Env, (∀ c, c ≤ k → σ c = σ0 c) ∧ σ (k + 1) = (d, .top) :: σ0 k := ⟨fun c => if c ≤ k then σ0 c else (d, .top) :: σ0 k, fun c hc => by simp [hc], if_neg (by omega)⟩
  obtain ⟨σ, hs1, hs2⟩ := hσ
  have hst : ∀ i o, i < k + 1 → l[i]? = some o → ∀ objs, StepAt P w0 N l.toArray objs o (σ i) (σ (i + 1)) := fun i o hi ho objs => by
    by_cases hik : i < k
    · rw [hs1 i (by omega), hs1 (i + 1) (by omega)]
      exact h3 i o (by rw [e1, List.getElem?_take, if_pos hik]; exact ho) objs
    · obtain rfl : i = k := by omega
      rw [hoa] at ho; cases ho
      rw [hs1 i (Nat.le_refl _), hs2]
      exact ⟨d, .top, hda, hdN', fun _ => rfl, .inl ⟨.inl hga, y_alloc_top hop hz⟩⟩
  have hrep : ∀ i, (Array.replicate l.toArray.size false).getD i false = false := fun i => by
    rcases Nat.lt_or_ge i l.toArray.size with h | h
    · simp at h; simp [h]
    · simp at h; simp [Array.getD_eq_getD_getElem?, h]
  refine wp_region_any hm (any_of_jx3 (objs := objs) hok (k := k + 1) (by simp; omega) htl (σ := σ) (ia := k) (d := d) (T := T) (zs := zs) (oa := oa) (Nat.lt_succ_self k) (by simpa using hoa) hop hda hdN' hz hga (fun j o hj ho hne hd => ?_) (fun i o hi ho => hst i o hi (by simpa using ho)) (fun t => by rw [hs2, hs1 k (Nat.le_refl _)]) (fun ss b => ?_) _ _ _ _ (by simp) (by simp [unlisted]) (fun i hi => by rw [hrep] at hi; cases hi) (fun j oj _ hx => nomatch (hrep j).symm.trans hx) (.inl ⟨(fun h => nomatch (hrep k).symm.trans h), hs.defers, hs.size, ?_, fun t c hc h4 h5 v hv => ?_⟩))
  · have hmem : o ∈ l1 := by
      have : l1[j]? = some o := by rw [e1, List.getElem?_take, if_pos (by omega)]; simpa using ho
      exact List.mem_of_getElem? this
    have := List.all_eq_true.1 hno o hmem
    rw [hd] at this
    simp at this
  · rw [hs2]
    have : (l.toArray.toList.drop (k + 1)) = l2 := by simpa using hd2
    rw [this]
    refine ⟨fun a w hs => (h2 ss b).run a w ⟨hs.defers, hs.size, hs.mem, fun t v hv => hs.env t v ?_⟩⟩
    rw [lk_cons] at hv ⊢
    split
    · rename_i hdt; rw [if_pos hdt] at hv; exact hv
    · rename_i hdt
      rw [if_neg hdt] at hv
      rw [lk_cons, if_neg hdt]; exact hv
  · exact hs.mem.grow ⟨hs.mem.below.os, hs.mem.below.tape, hs.mem.below.output, hs.mem.below.size, hs.mem.below.block⟩ (Nat.le_refl _) (fun _ _ => rfl)
  · have hk0 : ∀ m, m ≤ c → lk t (σ m) = lk t (σ 0) := fun m => by
      induction m with
      | zero => intro _; rfl
      | succ m ih =>
        intro hm2
        have hml : m < l.length := by omega
        obtain ⟨d, tv, e1, _, e2, _⟩ := hst m l[m] (by omega) (List.getElem?_eq_getElem hml) objs
        rw [e2, lk_cons, if_neg]
        · exact ih (by omega)
        · intro e
          have := h4 m (by omega) (by unfold Writes; simp [hml, e1, e])
          rw [hrep] at this; cases this
    rw [hk0 c (Nat.le_refl _), hs1 0 (Nat.zero_le _), h1 t] at hv
    have hst : Step w objs { w with drawn := w.drawn + 1 } objs := ⟨fun _ _ _ => rfl, fun _ _ h => h, fun _ _ _ rows _ _ h => ⟨⟨rows, h⟩, rfl⟩, Nat.le_refl _, fun h => h⟩
    exact (hs.env t v hv).step hst⟩
variable {K : Env → Prop} {rest : List Oper} {d T0 : Nat} {pos : String} {af : Array Edge}
theorem du_nil (h : K env) : DU P w0 N K [] env := .nil _ h
end
end Go.Proofs.YtiihihgjiklnoaaGreatDoor
/- The abstract walk, part 21: the range over a string of plain bytes; a variable that is written no more. -/
namespace Go.Proofs.YtiihihgjiklnoaaGreatDoor
open Go Go.RowKit
section
variable {P : Program} {w0 : World} {N : Nat} {Q : Exit → Act → World → Prop} {objs objs' : Objs} {ops : Array Oper} {env : Env} {o : Oper}
variable {rest : List Oper} {d T0 : Nat} {pos : String} {af : Array Edge} {g : Option (Nat × Bool)}
end
end Go.Proofs.YtiihihgjiklnoaaGreatDoor
/- The abstract walk, part 22: append of a string's bytes. -/
namespace Go.Proofs.YtiihihgjiklnoaaGreatDoor
open Go Go.RowKit
section
variable {P : Program} {w0 : World} {N : Nat} {Q : Exit → Act → World → Prop} {objs objs' : Objs} {ops : Array Oper} {env : Env} {o : Oper}
end
end Go.Proofs.YtiihihgjiklnoaaGreatDoor
/- The abstract walk, part 18: a nil slice in a box, taken as a row of nothing that is owned. -/
namespace Go.Proofs.YtiihihgjiklnoaaGreatDoor
open Go Go.RowKit
section
variable {P : Program} {w0 : World} {N : Nat} {Q : Exit → Act → World → Prop} {env : Env} {objs objs' : Objs}
theorem step_nilC (w : World) (s b ss m : Nat) (c c' : List TV) (hm : 0 < m) : Step w ((s, b, .box c) :: objs) w ((s, b, .box c') :: (ss, 0, .row m []) :: objs) :=
  ⟨fun _ _ _ => rfl, fun b' _ ha => ⟨ha.1, by
    obtain ⟨h0, s', o, hm⟩ := ha
    rcases List.mem_cons.1 hm with he | hm
    · simp only [Prod.mk.injEq] at he
      obtain ⟨rfl, rfl, _⟩ := he
      exact ⟨_, _, List.mem_cons_self⟩
    · rcases List.mem_cons.1 hm with he | hm
      · simp only [Prod.mk.injEq] at he; omega
      · exact ⟨s', o, List.mem_cons_of_mem _ hm⟩⟩, fun s' b' m' rows _ hb hm' => by
    rcases List.mem_cons.1 hm' with he | hm'
    · simp only [Prod.mk.injEq] at he
      cases he.2.2
    · rcases List.mem_cons.1 hm' with he | hm'
      · simp only [Prod.mk.injEq] at he; omega
      · exact ⟨⟨rows, List.mem_cons_of_mem _ hm'⟩, rfl⟩, Nat.le_refl _, fun hk => by
    rcases List.mem_cons.1 hk with he | hk
    · simp only [marker, Prod.mk.injEq] at he
      cases he.2.2
    · rcases List.mem_cons.1 hk with he | hk
      · simp only [marker, Prod.mk.injEq, TObj.row.injEq] at he; omega
      · exact List.mem_cons_of_mem _ hk⟩
theorem Sim.nilC {a : Act} {w : World} {s b : Nat} {cells : List TV} (h : Sim w0 N env ((s, b, .box cells) :: objs) a w) (i m : Nat) (hm : 0 < m) (hi : cells[i]? = some .nils) : ∃ ss, Sim w0 N env ((s, b, .box (cells.set i (.ms ss 0 0 0))) :: (ss, 0, .row m []) :: objs) a w := by
  obtain ⟨ss, hss⟩ := site_new ((s, b, .box cells) :: objs)
  have hpos : 0 < w.heap.size := Nat.lt_of_lt_of_le h.mem.pos h.mem.below.size
  have hst : Step w ((s, b, .box cells) :: objs) w ((s, b, .box (cells.set i (.ms ss 0 0 0))) :: (ss, 0, .row m []) :: objs) := step_nilC w s b ss m _ _ hm
  have hnm : marker ∉ (s, b, TObj.box (cells.set i (.ms ss 0 0 0))) :: (ss, 0, .row m []) :: objs := fun hk => h.mem.noMark (hst.mark hk)
  have hil : i < cells.length := (List.getElem?_eq_some_iff.1 hi).1
  refine ⟨ss, h.defers, h.size, ⟨h.mem.below, h.mem.pos, fun s' b' o hm' => ?_, ?_⟩, fun t v hv => (h.env t v hv).step hst⟩
  · rcases List.mem_cons.1 hm' with he | hm'
    · simp only [Prod.mk.injEq] at he
      obtain ⟨rfl, rfl, rfl⟩ := he
      obtain ⟨⟨g1, g2⟩, cur, e, g3, g4, g5⟩ := h.mem.obj _ _ _ (List.mem_cons_self (l := objs))
      refine ⟨⟨g1, fun t ht => ?_⟩, cur, e, g3, by rw [List.length_set]; exact g4, fun j t hj => ?_⟩
      · rcases List.mem_or_eq_of_mem_set ht with ht | rfl
        · exact g2 t ht
        · rfl
      · rw [List.getElem?_set] at hj
        split at hj
        · rename_i e1
          subst e1
          try rw [if_pos hil] at hj
          cases hj
          obtain ⟨v, g6, g7⟩ := g5 i _ hi
          refine ⟨v, g6, ?_⟩
          cases g7
          exact .ms ss 0 0 0 _ (.mk ⟨hpos, hnm, none, 0, rfl⟩ (fun _ _ _ => .inl ⟨rfl, rfl, rfl, rfl⟩) fun _ => ⟨rfl, rfl, rfl⟩)
        · obtain ⟨v, g6, g7⟩ := g5 j t hj
          exact ⟨v, g6, g7.step hst⟩
    · rcases List.mem_cons.1 hm' with he | hm'
      · simp only [Prod.mk.injEq] at he
        obtain ⟨rfl, rfl, rfl⟩ := he
        exact ⟨⟨hm, by simp⟩, by simp, .inl ⟨rfl, rfl⟩⟩
      · exact (h.mem.obj s' b' o (List.mem_cons_of_mem _ hm')).step hst rfl
  · obtain ⟨p1, p2⟩ := List.pairwise_cons.1 h.mem.sites
    refine List.pairwise_cons.2 ⟨fun y hy => ?_, List.pairwise_cons.2 ⟨fun y hy => ⟨(hss y (List.mem_cons_of_mem _ hy)).symm, .inr rfl⟩, p2⟩⟩
    rcases List.mem_cons.1 hy with rfl | hy
    · refine ⟨hss (s, b, .box cells) List.mem_cons_self, .inl ?_⟩
      have := (h.mem.obj _ _ _ (List.mem_cons_self (l := objs))).1.1
      have := h.mem.pos
      show b ≠ 0
      omega
    · exact p1 y hy
theorem aw_nilC {c : Code} {s b : Nat} {cells : List TV} (i m : Nat) (hm : 0 < m) (hi : cells[i]? = some .nils) (h : ∀ ss, AW P w0 N c Q env ((s, b, .box (cells.set i (.ms ss 0 0 0))) :: (ss, 0, .row m []) :: objs)) : AW P w0 N c Q env ((s, b, .box cells) :: objs) := ⟨fun a w hs => by
  obtain ⟨ss, h1⟩ := hs.nilC i m hm hi
  exact (h ss).run a w h1⟩
theorem ao_pick {ops : Array Oper} {o : Oper} {rest : List Oper} (k : Pick objs' objs) (h : AO P w0 N ops Q o rest env objs') : AO P w0 N ops Q o rest env objs := ⟨fun a w K hs hK => h.run a w K (hs.pick k) hK⟩
end
end Go.Proofs.YtiihihgjiklnoaaGreatDoor
/- The abstract walk, part 19: equality of flat structs. -/
namespace Go.Proofs.YtiihihgjiklnoaaGreatDoor
open Go Go.RowKit
/-- Whether two cells are equal. -/
def eqC : TV → TV → Bool
  | .int _ m, .int _ n => decide (m = n)
  | .str s, .str u => decide (s = u)
  | .bool b, .bool c => b == c
  | _, _ => false
def eqL : List TV → List TV → Bool
  | t :: ts, u :: us => eqC t u && eqL ts us
  | _, _ => true
def feq1 (P : Program) (f : Field) (i : Nat) (t u : TV) : Bool :=
  Nat.beq f.offset i && (f.name != "_") && isScal P f.type && (match t, u, P.underlying f.type with
    | .int k _, .int k' _, some (.int _) => decide (k = k')
    | .str _, .str _, some .string => true
    | .bool _, .bool _, some .bool => true
    | _, _, _ => false)
def feqs (P : Program) : Nat → List Field → List TV → List TV → Bool
  | _, [], [], [] => true
  | i, f :: fs, t :: ts, u :: us => feq1 P f i t u && feqs P (i + 1) fs ts us
  | _, _, _, _ => false
theorem run_part_scal {P : Program} {w : World} {t : TypeId} {xs : Array Value} {i : Nat} {v : Value} (h : isScal P t = true) (hv : xs[i]? = some v) : (part t xs i).run P w = .ok v w := by
  have hi : i < xs.size := (Array.getElem?_eq_some_iff.1 hv).1
  have he : xs[i] = v := (Array.getElem?_eq_some_iff.1 hv).2
  simp only [part, Sem.run_bind, run_isAgg_f h, Result.andThen_ok]
  simp [hi, he, Sem.run_pure]
theorem run_eqFields {P : Program} {w : World} {objs : Objs} (d : Nat) (xs ys : Array Value) : ∀ (fs : List Field) (i : Nat) (ts us : List TV), feqs P i fs ts us = true →
    (∀ j t, ts[j]? = some t → ∃ v, xs[i + j]? = some v ∧ Rep w objs t v) → (∀ j t, us[j]? = some t → ∃ v, ys[i + j]? = some v ∧ Rep w objs t v) →
    (Op.eqFields (d + 1) xs ys fs).run P w = .ok (eqL ts us) w
  | [], i, [], [], _, _, _ => rfl
  | f :: fs, i, t :: ts, u :: us, h, hx, hy => by
    simp only [feqs, feq1, Bool.and_eq_true] at h
    obtain ⟨⟨⟨⟨h1, h2⟩, h3⟩, h4⟩, h5⟩ := h
    have h1 := Nat.eq_of_beq_eq_true h1
    obtain ⟨v, hv, hr⟩ := hx 0 t rfl
    obtain ⟨v', hv', hr'⟩ := hy 0 u rfl
    have ih := run_eqFields (P := P) (w := w) (objs := objs) d xs ys fs (i + 1) ts us h5 (fun j t' hj => by
      have := hx (j + 1) t' (by simpa using hj)
      rwa [show i + (j + 1) = i + 1 + j by omega] at this) (fun j t' hj => by
      have := hy (j + 1) t' (by simpa using hj)
      rwa [show i + (j + 1) = i + 1 + j by omega] at this)
    rw [Nat.add_zero] at hv hv'
    have hn : f.name ≠ "_" := by simpa using h2
    have he : (Op.equalIn (d + 1) f.type v v').run P w = .ok (eqC t u) w := by
      split at h4
      · rename_i k m k' n hk hu
        have hkk : k = k' := of_decide_eq_true h4
        subst hkk
        rw [hr.int_inv, hr'.int_inv, run_equalIn_int w d f.type k _ m n hu]
        rw [show eqC (.int k m) (.int k n) = decide (m = n) from rfl, beqd]
      · rename_i s s' hu
        rw [hr.str_inv, hr'.str_inv, run_equalIn_string w d f.type s s' hu, toList_eq]; rfl
      · rename_i b c hu
        rw [hr.bool_inv, hr'.bool_inv, run_equalIn_bool' w d f.type b c hu]; rfl
      · cases h4
    simp only [Op.eqFields, if_pos hn, Sem.run_bind, h1, run_part_scal h3 hv, run_part_scal h3 hv', Result.andThen_ok, he, eqL]
    cases hq : eqC t u
    · simp [Sem.run_pure]
    · simp [ih]
  | [], i, _ :: _, _, h, _, _ => by simp [feqs] at h
  | [], i, [], _ :: _, h, _, _ => by simp [feqs] at h
  | _ :: _, i, [], _, h, _, _ => by simp [feqs] at h
  | _ :: _, i, _ :: _, [], h, _, _ => by simp [feqs] at h
/-- Whether a struct type's values of these cells are compared cell by cell. -/
def feqT (P : Program) (T : TypeId) (l l' : List TV) : Bool :=
  (match P.underlying T with | some (.struct _) => true | _ => false) && !P.stoodInHeld T && !P.eqGuardType P.depth T && feqs P 0 (P.fieldsOf T).toList l l'
section
variable {P : Program} {w0 : World} {N : Nat} {env : Env} {objs : Objs} {o : Oper}
theorem run_eq_agg {w : World} {T : TypeId} {l l' : List TV} {vs vs' : Array Value} (hT : feqT P T l l' = true) (h1 : Rep w objs (.agg l) (.agg vs)) (h2 : Rep w objs (.agg l') (.agg vs')) : (Op.equalIn 10000 T (.agg vs) (.agg vs')).run P w = .ok (eqL l l') w := by
  simp only [feqT, Bool.and_eq_true, Bool.not_eq_true'] at hT
  obtain ⟨⟨⟨g1, g2⟩, _⟩, g4⟩ := hT
  have hu : P.underlying T = some (.struct (P.fieldsOf T)) := by
    unfold Program.fieldsOf
    split at g1
    · rename_i fs hf; rw [hf]
    · cases g1
  rw [show (10000 : Nat) = 9998 + 1 + 1 from rfl, run_equalIn_agg w (9998 + 1) T _ _ hu g2]
  have key : ∀ {l : List TV} {vs : Array Value}, Rep w objs (.agg l) (.agg vs) → ∀ j t, l[j]? = some t → ∃ v, vs[0 + j]? = some v ∧ Rep w objs t v := fun h j t hj => by
    cases h with
    | agg _ _ hi hl hr =>
      have hjl := (List.getElem?_eq_some_iff.1 hj).1
      rw [hl] at hjl
      exact ⟨_, by rw [Nat.zero_add]; exact Array.getElem?_eq_getElem hjl, hr j t _ hj (Array.getElem?_eq_getElem hjl)⟩
  exact run_eqFields 9998 _ _ _ 0 l l' g4 (key h1) (key h2)
theorem agg_inv {w : World} {l : List TV} {v : Value} (h : Rep w objs (.agg l) v) : ∃ vs, v = .agg vs := by cases h; exact ⟨_, rfl⟩
section
variable {T t2 : TypeId} {x y : Operand} {l l' : List TV}
theorem y_eql_a (ho : o.op = .binOp .eql T x y t2) (hx : ev env x = some (.agg l)) (hy : ev env y = some (.agg l')) (hT : feqT P T l l' = true) : Yields P w0 env objs o (.bool (eqL l l')) := yields_same fun a w _ hop => by
  have h1 := hop x (by simp [ho, Op.operands]) _ hx
  have h2 := hop y (by simp [ho, Op.operands]) _ hy
  obtain ⟨vs, hv⟩ := agg_inv h1
  obtain ⟨vs', hv'⟩ := agg_inv h2
  rw [hv] at h1
  rw [hv'] at h2
  have hg : P.eqGuardType P.depth T = false := by
    simp only [feqT, Bool.and_eq_true, Bool.not_eq_true'] at hT
    exact hT.1.2
  refine ⟨.bool (eqL l l'), ?_, .bool _⟩
  simp only [execOp, ho, hv, hv']
  refine exec_v ?_
  simp only [Sem.run_bind, run_eqGuard_agg w _ T x y vs vs' hg, Result.andThen_ok, run_eql_struct, run_eq_agg hT h1 h2]
theorem y_neq_a (ho : o.op = .binOp .neq T x y t2) (hx : ev env x = some (.agg l)) (hy : ev env y = some (.agg l')) (hT : feqT P T l l' = true) : Yields P w0 env objs o (.bool (!(eqL l l'))) := yields_same fun a w _ hop => by
  have h1 := hop x (by simp [ho, Op.operands]) _ hx
  have h2 := hop y (by simp [ho, Op.operands]) _ hy
  obtain ⟨vs, hv⟩ := agg_inv h1
  obtain ⟨vs', hv'⟩ := agg_inv h2
  rw [hv] at h1
  rw [hv'] at h2
  have hg : P.eqGuardType P.depth T = false := by
    simp only [feqT, Bool.and_eq_true, Bool.not_eq_true'] at hT
    exact hT.1.2
  refine ⟨.bool (!(eqL l l')), ?_, .bool _⟩
  simp only [execOp, ho, hv, hv']
  refine exec_v ?_
  simp only [Sem.run_bind, run_eqGuard_agg w _ T x y vs vs' hg, Result.andThen_ok, run_neq_struct, run_eq_agg hT h1 h2]
end
section
variable {Q : Exit → Act → World → Prop} {ops : Array Oper} {rest : List Oper} {d T0 : Nat} {pos : String} {af : Array Edge} {g : Option (Nat × Bool)} {T t2 : TypeId} {x y : Operand} {l l' : List TV}
variable {K : Env → Prop}
end
end
end Go.Proofs.YtiihihgjiklnoaaGreatDoor
