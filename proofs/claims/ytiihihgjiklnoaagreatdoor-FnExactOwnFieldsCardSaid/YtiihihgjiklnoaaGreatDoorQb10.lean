/- Part 10 of the proof: the texts EngN, EngQ, EngP, EngAA, SdA, SdB. -/
import Derived.Test.YtiihihgjiklnoaaGreatDoorQb7
import Derived.Laws.RangeString
import Derived.Test.YtiihihgjiklnoaaGreatDoorQb4
import Derived.Lib.AppendStr
import Derived.Test.YtiihihgjiklnoaaGreatDoorQb8
/- The abstract walk, part 20: a region that draws its order in which one variable is made, anywhere, and is set at the end. -/
namespace Go.Proofs.YtiihihgjiklnoaaGreatDoor
open Go Go.RowKit
inductive DU (P : Program) (w0 : World) (N : Nat) (K : Env → Prop) : List Oper → Env → Prop
  | nil (env : Env) (h : K env) : DU P w0 N K [] env
  | run (o : Oper) (rest : List Oper) (env : Env) (d : Nat) (tv : TV) (hd : o.dst = some d) (hN : Nat.blt d N = true) (hg : o.guard = none) (hy : ∀ objs, aS P w0 env objs o tv) (h : DU P w0 N K rest ((d, tv) :: env)) : DU P w0 N K (o :: rest) env
section
variable {P : Program} {w0 : World} {N : Nat} {Q : Exit → Act → World → Prop} {objs : aI} {ops : Array Oper} {env : Env}
theorem zA {K : Env → Prop} {l : List Oper} {env : Env} (h : DU P w0 N K l env) : ∃ σ : Nat → Env, (∀ t, lk t (σ 0) = lk t env) ∧ K (σ l.length) ∧ ∀ k o, l[k]? = some o → ∀ objs, iX P w0 N ops objs o (σ k) (σ (k + 1)) := by
  induction h with
  | nil env h => exact ⟨fun _ => env, fun _ => rfl, h, by simp⟩
  | run o rest env d tv hd hN hg hy h ih =>
    obtain ⟨σ, h1, h2, h3⟩ := ih
    refine ⟨fun k => match k with | 0 => env | k + 1 => σ k, fun _ => rfl, h2, fun k o' hk objs => ?_⟩
    cases k with
    | zero => simp at hk; subst hk; exact ⟨d, tv, hd, Nat.blt_eq ▸ hN, h1, .inl ⟨.inl hg, hy objs⟩⟩
    | succ k => exact h3 k o' (by simpa using hk) objs
theorem aal {objs' : aI} (hok : cD ops = true) {k : Nat} (hk : k ≤ ops.size) {σ : Nat → Env} {X : Nat → Prop} {a : Act} {w w' : World} (hJ : JY w0 N ops objs σ k X a w) (hX : cB ops X) (_hXk : ∀ i, X i → i < k) {i d : Nat} {o : Oper} {tv : TV} {v : Value} (hi : ops[i]? = some o) (hik : i < k) (hni : ¬ X i) (hd : o.dst = some d) (hdN : d < N)
    (hσ : ∀ i o, i < k → ops[i]? = some o → iX P w0 N ops objs o (σ i) (σ (i + 1))) (hσi : ∀ t, lk t (σ (i + 1)) = lk t ((d, tv) :: σ i)) (hr : Rep w' objs' tv v) (hw : du w0 objs' w') (hst : jz w objs w' objs') : JY w0 N ops objs' σ k (fun k => k = i ∨ X k) (a.put (some d) v) w' := by
  refine ⟨hJ.defers, by simp [Act.put, hJ.size], hw, fun t c hc h1 h2 u hu => ?_⟩
  show Rep w' objs' u ((a.tmps.setIfInBounds d v).getD t undef)
  rw [fu (by rw [hJ.size]; exact hdN)]
  by_cases hdt : d = t
  · subst hdt
    rw [if_pos rfl]
    have hwi : ce ops i d := by unfold ce; rw [hi]; exact hd
    have hic : i < c := Nat.lt_of_not_le fun h => h2 i h hik hwi (.inl rfl)
    have hlast : ∀ m, i + 1 ≤ m → m ≤ c → lk d (σ m) = some tv := fun m => by
      induction m with
      | zero => intro h; omega
      | succ m ih =>
        intro hm1 hm2
        rcases Nat.eq_or_lt_of_le hm1 with h | h
        · have : m = i := by omega
          subst this; rw [hσi, bI, if_pos rfl]
        · have hm : m < ops.size := by omega
          have hom : ops[m]? = some ops[m] := by simp [hm]
          obtain ⟨dm, tm, e1, _, e2, _⟩ := hσ m _ (by omega) hom
          rw [e2, bI, if_neg]
          · exact ih (by omega) (by omega)
          · intro e
            subst e
            have hwm : ce ops m dm := by unfold ce; rw [hom]; exact e1
            rcases h1 m (by omega) hwm with h3 | h3
            · omega
            · exact hni (fB hok hi hom (by omega) (eD hd e1) hX h3)
    rw [hlast c hic (Nat.le_refl _)] at hu
    simp only [Option.some.injEq] at hu
    subst hu; exact hr
  · rw [if_neg hdt]
    refine (hJ.cut t c hc (fun m hm hwm => ?_) (fun m hm hmk hwm hx => h2 m hm hmk hwm (.inr hx)) u hu).step hst
    rcases h1 m hm hwm with h3 | h3
    · subst h3
      unfold ce at hwm
      rw [hi] at hwm
      simp only [Option.bind_some, hd, Option.some.injEq] at hwm
      exact absurd hwm hdt
    · exact h3
theorem uo {o : Oper} {T : TypeId} {zs : List TV} (ho : o.op = .alloc T) (hz : cF P T = some zs) : aS P w0 env objs o .top := fun a w K Q hw hop hK => by
  obtain ⟨ss, hf⟩ := fy objs
  obtain ⟨z, h1, h2, h3⟩ := jF hz w
  have hrun : (execOp a.eval o).run P w = .ok (.value (.pointer (some ⟨w.heap.size, 0, none⟩))) (w.alloc (.cells z.cells T)) := by
    simp only [execOp, ho]
    refine cy ?_
    simp [Instr.alloc, Sem.run_bind, h1, newVar, newRow]
  unfold Oper.wp
  rw [hrun]
  obtain ⟨g1, g2⟩ := hw.alloc (.cells z.cells T)
  exact hK _ _ (.top _) g1 g2
theorem uX {o : Oper} {T : TypeId} {zs : List TV} (ho : o.op = .alloc T) (hz : cF P T = some zs) {a : Act} {w : World} (hw : du w0 objs w) {K : Act → World → Prop} (hK : ∀ ss b v w', Rep w' ((ss, b, .box zs) :: objs) (.mp ss b 0) v → du w0 ((ss, b, .box zs) :: objs) w' → jz w objs w' ((ss, b, .box zs) :: objs) → K (a.put o.dst v) w') : o.wp P a w K Q := by
  obtain ⟨ss, hf⟩ := fy objs
  obtain ⟨z, h1, h2, h3⟩ := jF hz w
  have hst := gc hw z.cells T ss (.box zs)
  have hrun : (execOp a.eval o).run P w = .ok (.value (.pointer (some ⟨w.heap.size, 0, none⟩))) (w.alloc (.cells z.cells T)) := by
    simp only [execOp, ho]
    refine cy ?_
    simp [Instr.alloc, Sem.run_bind, h1, newVar, newRow]
  unfold Oper.wp
  rw [hrun]
  refine hK ss w.heap.size _ _ (.mp ss _ 0 ⟨by simp, fL hw #[] 0 ss _⟩) (hw.newObj hf ⟨⟨hw.below.size, h2.2⟩, z.cells, T, heap_alloc_new w _, h2.1, fun j t hj => ?_⟩) hst
  have hlt : j < z.cells.size := by rw [h2.1]; exact (List.getElem?_eq_some_iff.1 hj).1
  exact ⟨z.cells[j], by simp [hlt], h3 _ _ j t _ hj (by simp [hlt])⟩
theorem ach (hok : cD ops = true) {k : Nat} (hk : k ≤ ops.size) {σ : Nat → Env} {X : Nat → Prop} {a : Act} {w : World} (hJ : JY w0 N ops objs σ k X a w) (hX : cB ops X) (hXk : ∀ i, X i → i < k) {i : Nat} {o : Oper} (ho : ops[i]? = some o) (hik : i < k) (hni : ¬ X i) (hX' : cB ops fun k => k = i ∨ X k)
    (hσ : ∀ i o, i < k → ops[i]? = some o → iX P w0 N ops objs o (σ i) (σ (i + 1))) {K : Act → World → Prop} (hnext : ∀ d v w', o.dst = some d → d < N → jz w objs w' objs → JY w0 N ops objs σ k (fun k => k = i ∨ X k) (a.put (some d) v) w' → K (a.put (some d) v) w') : wpOp P ops Q i K a w := by
  obtain ⟨d, tv, hd, hdN, hσi, hcase⟩ := hσ i o hik ho
  have hguard : ∀ j b c dj, o.guard = some (j, b) → (ops[j]?).bind (·.dst) = some dj → lk dj (σ i) = some (.bool c) → yielded ops a.tmps j = some c := fun j b c dj h1 h2 h3 => by
    have hl : dj ∈ o.looksAt ops := by unfold Oper.looksAt; rw [h1]; simp [h2]
    exact fP h2 (jx hok hk hJ hX hXk ho hik hni hX' hl h3).bool_inv
  unfold wpOp
  rw [ho]
  rcases hcase with ⟨hg, hy⟩ | ⟨hg, rfl⟩
  · have hw : Region.wanted o (yielded ops a.tmps) = true := by
      rcases hg with hg | ⟨j, b, dj, h1, h2, h3⟩
      · simp [Region.wanted, hg]
      · simp [Region.wanted, h1, hguard j b b dj h1 h2 h3]
    simp only [hw, if_true]
    refine .inl (hy a w _ Q hJ.mem (fun x hx v hv => ?_) fun v w' hr hsw hst => ?_)
    · cases x with
      | tmp t =>
        have hl : t ∈ o.looksAt ops := by
          unfold Oper.looksAt
          exact List.mem_append_left _ (List.mem_filterMap.2 ⟨.tmp t, hx, rfl⟩)
        exact jx hok hk hJ hX hXk ho hik hni hX' hl hv
      | const u => exact j6 hv
      | func f => simp only [ev, Option.some.injEq] at hv; subst hv; exact .fn f [] #[] rfl (by simp)
      | global g => cases hv
    · rw [hd]
      exact hnext d v w' hd hdN hst (qw hok hk hJ hX hXk ho hik hni hd hdN hσ hσi hr hsw hst)
  · have hw : Region.wanted o (yielded ops a.tmps) = false := by
      rcases hg with ⟨j, b, dj, h1, h2, h3⟩ | ⟨j, c, dj, h1, h2, h3⟩
      · cases b <;> simp [Region.wanted, h1, hguard j _ _ dj h1 h2 h3]
      · have hl : dj ∈ o.looksAt ops := by unfold Oper.looksAt; rw [h1]; simp [h2]
        simp [Region.wanted, h1, eU h2 (jx hok hk hJ hX hXk ho hik hni hX' hl h3).undef_inv]
    simp only [hw, Bool.false_eq_true, if_false]
    rw [hd]
    exact hnext d _ w hd hdN (gQ _ _) (qw hok hk hJ hX hXk ho hik hni hd hdN hσ hσi (.tup [] #[] rfl (by simp)) hJ.mem (gQ _ _))
def JZ (w0 : World) (N : Nat) (ops : Array Oper) (objs : aI) (σ : Nat → Env) (k ia d : Nat) (zs : List TV) (X : Nat → Prop) (a : Act) (w : World) : Prop :=
  (¬ X ia ∧ JY w0 N ops objs σ k X a w) ∨ (X ia ∧ ∃ ss b, JY w0 N ops ((ss, b, .box zs) :: objs) σ k X a w ∧ Rep w ((ss, b, .box zs) :: objs) (.mp ss b 0) (a.tmps.getD d undef))
theorem JZ.congr {σ : Nat → Env} {k ia d : Nat} {zs : List TV} {X Y : Nat → Prop} {a : Act} {w : World} (h : JZ w0 N ops objs σ k ia d zs X a w) (hXY : ∀ i, Y i ↔ X i) : JZ w0 N ops objs σ k ia d zs Y a w := by
  have : Y = X := funext fun i => propext (hXY i)
  rw [this]; exact h
theorem vc (hok : cD ops = true) {k : Nat} (hk : k ≤ ops.size) (htl : fQ ops k = true) {σ : Nat → Env} {ia d : Nat} {zs : List TV} (hia : ia < k) (hQ : ∀ ss b, AL P w0 N ops Q (ops.toList.drop k) ((d, .mp ss b 0) :: σ k) ((ss, b, .box zs) :: objs)) {fuel : Nat} {listed : Array Bool} {a : Act} {w : World} (hsz : listed.size = ops.size) (hun : bG listed ≤ fuel) (hXk : ∀ i, listed.getD i false = true → i < k)
    (hall : ∀ j, j < k → listed.getD j false = true) (hJ : JZ w0 N ops objs σ k ia d zs (fun i => listed.getD i false = true) a w) : wpAny P .any ops Q fuel listed a w := by
  rcases hJ with ⟨hn, _⟩ | ⟨_, ss, b, hJ, hr⟩
  · exact absurd (hall ia hia) hn
  · refine kg (σ := fun c => if c = k then (d, .mp ss b 0) :: σ k else σ c) hok hk htl (by rw [if_pos rfl]; exact hQ ss b) hsz hun hXk hall ⟨hJ.defers, hJ.size, hJ.mem, fun t c hc h1 h2 v hv => ?_⟩
    split at hv
    · rename_i hck
      subst hck
      rw [bI] at hv
      split at hv
      · rename_i hdt
        subst hdt
        cases hv
        exact hr
      · exact hJ.cut t c hc h1 h2 v hv
    · exact hJ.cut t c hc h1 h2 v hv
theorem vQ (hok : cD ops = true) {k : Nat} (hk : k ≤ ops.size) (htl : fQ ops k = true) {σ : Nat → Env} {ia d : Nat} {T : TypeId} {zs : List TV} {oa : Oper} (hia : ia < k) (hoa : ops[ia]? = some oa) (hop : oa.op = .alloc T) (hda : oa.dst = some d) (hdN : d < N) (hz : cF P T = some zs) (hga : oa.guard = none)
    (hother : ∀ j o, j < k → ops[j]? = some o → j ≠ ia → o.dst ≠ some d) (hσ : ∀ i o, i < k → ops[i]? = some o → ∀ objs, iX P w0 N ops objs o (σ i) (σ (i + 1))) (hσa : ∀ t, lk t (σ (ia + 1)) = lk t ((d, .top) :: σ ia)) (hQ : ∀ ss b, AL P w0 N ops Q (ops.toList.drop k) ((d, .mp ss b 0) :: σ k) ((ss, b, .box zs) :: objs)) :
    ∀ (fuel : Nat) (listed : Array Bool) (a : Act) (w : World), listed.size = ops.size → bG listed ≤ fuel → (∀ i, listed.getD i false = true → i < k) → cB ops (fun i => listed.getD i false = true) → JZ w0 N ops objs σ k ia d zs (fun i => listed.getD i false = true) a w → wpAny P .any ops Q fuel listed a w := by
  intro fuel
  induction fuel with
  | zero =>
    intro listed a w hsz hun hXk hX hJ
    by_cases hall : ∀ j, j < k → listed.getD j false = true
    · exact vc hok hk htl hia hQ hsz hun hXk hall hJ
    · exfalso
      apply hall
      intro j hj
      cases hb : listed.getD j false with
      | true => rfl
      | false =>
        exfalso
        have hjl : j < listed.size := by omega
        have : listed[j] ∈ listed.toList.filter (! ·) := List.mem_filter.2 ⟨by simp, by
          simp only [Array.getD_eq_getD_getElem?, Array.getElem?_eq_getElem hjl, Option.getD_some] at hb; simp [hb]⟩
        have := List.length_pos_of_mem this
        unfold bG at hun; omega
  | succ fuel ih =>
    intro listed a w hsz hun hXk hX hJ
    by_cases hall : ∀ j, j < k → listed.getD j false = true
    · exact vc hok hk htl hia hQ hsz hun hXk hall hJ
    have hsome : ∃ j, j < k ∧ ¬ listed.getD j false = true := by
      refine Classical.byContradiction fun hn => hall fun j hj => Classical.byContradiction fun h => hn ⟨j, hj, h⟩
    refine ⟨fun hr => ?_, fun i hi => ?_⟩
    · exfalso
      have hall2 : ∀ j, j < ops.size → listed.getD j false = true := by
        intro j
        induction j using Nat.strongRecOn with
        | _ j ih =>
          intro hj
          cases hb : listed.getD j false with
          | true => rfl
          | false =>
            have hoj : ops[j]? = some ops[j] := by simp [hj]
            have hmem : j ∈ Region.ready .any ops listed := mem_ready.2 ⟨by
              have hjl : j < listed.size := by omega
              simp only [Array.getD_eq_getD_getElem?, Array.getElem?_eq_getElem hjl, Option.getD_some] at hb ⊢; exact hb, _, hoj, fun e he hbd => ih e.on ((bS hok hoj).1 e he hbd) (Nat.lt_trans ((bS hok hoj).1 e he hbd) hj)⟩
            rw [hr] at hmem; cases hmem
      obtain ⟨j, hj, hnj⟩ := hsome
      exact hnj (hall2 j (by omega))
    · obtain ⟨h0, o, ho, hed⟩ := mem_ready.1 hi
      have hisz : i < ops.size := (Array.getElem?_eq_some_iff.1 ho).1
      have hil : i < listed.size := by rw [hsz]; exact hisz
      have h0' : listed[i] = false := by simpa [Array.getD_eq_getD_getElem?, hil] using h0
      have hni : ¬ listed.getD i false = true := by simp [hil, h0']
      have hXeq : ∀ k, (listed.setIfInBounds i true).getD k false = true ↔ (k = i ∨ listed.getD k false = true) := fun k => by
        by_cases hk : k = i
        · subst hk; simp [hil]
        · rw [getD_set_ne false (Ne.symm hk)]; simp [hk]
      have hX' : cB ops fun k => k = i ∨ listed.getD k false = true := fun j oj hj hx e he hb => by
        rcases hx with rfl | hx
        · rw [hj] at ho; cases ho; exact .inr (hed e he hb)
        · exact .inr (hX j oj hj hx e he hb)
      have hik : i < k := Nat.lt_of_not_le fun hge => by
        obtain ⟨j, hj, hnj⟩ := hsome
        have := dh hok hX' i hisz (.inl rfl) j (by omega) (f7 htl hisz hge (by omega))
        rcases this with h | h
        · omega
        · exact hnj h
      have hXs : cB ops fun k => (listed.setIfInBounds i true).getD k false = true := fun j oj hj hx e he hb => (hXeq _).2 (hX' j oj hj ((hXeq _).1 hx) e he hb)
      have hun' : bG (listed.setIfInBounds i true) ≤ fuel := by
        have key : ∀ (l : List Bool) (i : Nat), l[i]? = some false → ((l.set i true).filter (! ·)).length + 1 = (l.filter (! ·)).length := fun l => by
          induction l with
          | nil => intro i h; simp at h
          | cons x l ih =>
            intro i h
            cases i with
            | zero => simp at h; subst h; simp
            | succ i =>
              have := ih i (by simpa using h)
              cases x <;> simp at this ⊢ <;> omega
        have := key listed.toList i (by simp [hil, h0'])
        unfold bG at hun ⊢
        simp only [Array.toList_setIfInBounds]
        omega
      have hnext : ∀ a' w', JZ w0 N ops objs σ k ia d zs (fun k => k = i ∨ listed.getD k false = true) a' w' → wpAny P .any ops Q fuel (listed.setIfInBounds i true) a' w' := fun a' w' hJ' =>
        ih _ a' w' (by simpa using hsz) hun' (fun j hj => ((hXeq j).1 hj).elim (fun e => e ▸ hik) (hXk j)) hXs (hJ'.congr hXeq)
      rcases hJ with ⟨hn, hJ⟩ | ⟨hy, ss, b, hJ, hrep⟩
      · by_cases hii : i = ia
        · subst hii
          rw [hoa] at ho
          cases ho
          unfold wpOp
          rw [hoa]
          have hw : Region.wanted oa (yielded ops a.tmps) = true := by simp [Region.wanted, hga]
          simp only [hw, if_true]
          refine .inl (uX hop hz hJ.mem fun ss b v w' hr hsw hst => ?_)
          rw [hda]
          refine hnext _ _ (.inr ⟨.inl rfl, ss, b, aal hok hk hJ hX hXk hoa hik hni hda hdN (fun i o h1 h2 => hσ i o h1 h2 objs) hσa (.top v) hsw hst, ?_⟩)
          show Rep w' _ _ ((a.tmps.setIfInBounds d v).getD d undef)
          rw [fu (by rw [hJ.size]; exact hdN), if_pos rfl]
          exact hr
        · refine ach hok hk hJ hX hXk ho hik hni hX' (fun i o h1 h2 => hσ i o h1 h2 objs) fun d' v w' _ _ hst hJ' => hnext _ _ (.inl ⟨fun h => ?_, hJ'⟩)
          rcases h with h | h
          · exact hii h.symm
          · exact hn h
      · have hii : i ≠ ia := fun h => hni (h ▸ hy)
        refine ach hok hk hJ hX hXk ho hik hni hX' (fun i o h1 h2 => hσ i o h1 h2 _) fun d' v w' hd' hd'N hst hJ' => hnext _ _ (.inr ⟨.inr hy, ss, b, hJ', ?_⟩)
        show Rep w' _ _ ((a.tmps.setIfInBounds d' v).getD d undef)
        rw [fu (by rw [hJ.size]; exact hd'N), if_neg (fun h => hother i o hik ho hii (by rw [hd', h]))]
        exact hrep.step hst

theorem vm (k : Nat) {id d : Nat} {l l1 l2 : List Oper} {oa : Oper} {T : TypeId} {zs : List TV} {env : Env} (hm : P.follows .mixedOrders = true) (hok : cD l.toArray = true) (htl : fQ l.toArray (k + 1) = true) (hc : Cut k l l1 (oa :: l2)) (hop : oa.op = .alloc T) (hda : oa.dst = some d) (hga : oa.guard = none) (hdN : Nat.blt d N = true) (_he : zT T = zs) (hz : cF P T = some zs)
    (hno : (l1.all fun o => !(o.dst == some d)) = true) (h : DU P w0 N (fun env' => ∀ ss b, AL P w0 N l.toArray Q l2 ((d, .mp ss b 0) :: env') ((ss, b, .box zs) :: objs)) l1 env) : AW P w0 N (.region id l.toArray true) Q env objs := ⟨fun a w hs => by
  obtain ⟨e1, e2, hkl⟩ := hc.eq
  have hkl2 : k < l.length := Nat.lt_of_not_le fun hge => by rw [List.drop_of_length_le hge] at e2; cases e2
  have hd2 : l.drop (k + 1) = l2 := by
    rw [List.drop_eq_getElem_cons hkl2] at e2
    exact (List.cons.inj e2).2.symm
  have hoa : l[k]? = some oa := by
    rw [List.drop_eq_getElem_cons hkl2] at e2
    rw [List.getElem?_eq_getElem hkl2, (List.cons.inj e2).1]
  obtain ⟨σ0, h1, h2, h3⟩ := zA (ops := l.toArray) h
  have hl1 : l1.length = k := by rw [e1, List.length_take]; omega
  rw [hl1] at h2
  have hdN' : d < N := Nat.blt_eq ▸ hdN
  -- the chain, with the variable's slot unknown behind its making
  have hσ : ∃ σ : Nat → Env, (∀ c, c ≤ k → σ c = σ0 c) ∧ σ (k + 1) = (d, .top) :: σ0 k := ⟨fun c => if c ≤ k then σ0 c else (d, .top) :: σ0 k, fun c hc => by simp [hc], if_neg (by omega)⟩
  obtain ⟨σ, hs1, hs2⟩ := hσ
  have hst : ∀ i o, i < k + 1 → l[i]? = some o → ∀ objs, iX P w0 N l.toArray objs o (σ i) (σ (i + 1)) := fun i o hi ho objs => by
    by_cases hik : i < k
    · rw [hs1 i (by omega), hs1 (i + 1) (by omega)]
      exact h3 i o (by rw [e1, List.getElem?_take, if_pos hik]; exact ho) objs
    · obtain rfl : i = k := by omega
      rw [hoa] at ho; cases ho
      rw [hs1 i (Nat.le_refl _), hs2]
      exact ⟨d, .top, hda, hdN', fun _ => rfl, .inl ⟨.inl hga, uo hop hz⟩⟩
  have hrep : ∀ i, (Array.replicate l.toArray.size false).getD i false = false := fun i => by
    rcases Nat.lt_or_ge i l.toArray.size with h | h
    · simp at h; simp [h]
    · simp at h; simp [Array.getD_eq_getD_getElem?, h]
  refine wp_region_any hm (vQ (objs := objs) hok (k := k + 1) (by simp; omega) htl (σ := σ) (ia := k) (d := d) (T := T) (zs := zs) (oa := oa) (Nat.lt_succ_self k) (by simpa using hoa) hop hda hdN' hz hga (fun j o hj ho hne hd => ?_) (fun i o hi ho => hst i o hi (by simpa using ho)) (fun t => by rw [hs2, hs1 k (Nat.le_refl _)]) (fun ss b => ?_) _ _ _ _ (by simp) (by simp [bG]) (fun i hi => by rw [hrep] at hi; cases hi) (fun j oj _ hx => nomatch (hrep j).symm.trans hx) (.inl ⟨(fun h => nomatch (hrep k).symm.trans h), hs.defers, hs.size, ?_, fun t c hc h4 h5 v hv => ?_⟩))
  · have hmem : o ∈ l1 := by
      have : l1[j]? = some o := by rw [e1, List.getElem?_take, if_pos (by omega)]; simpa using ho
      exact List.mem_of_getElem? this
    have := List.all_eq_true.1 hno o hmem
    rw [hd] at this
    simp at this
  · rw [hs2]
    have : (l.toArray.toList.drop (k + 1)) = l2 := by simpa using hd2
    rw [this]
    refine ⟨fun a w hs => (h2 ss b).run a w ⟨hs.defers, hs.size, hs.mem, fun t v hv => hs.env t v ?_⟩⟩
    rw [bI] at hv ⊢
    split
    · rename_i hdt; rw [if_pos hdt] at hv; exact hv
    · rename_i hdt
      rw [if_neg hdt] at hv
      rw [bI, if_neg hdt]; exact hv
  · exact hs.mem.grow ⟨hs.mem.below.os, hs.mem.below.tape, hs.mem.below.output, hs.mem.below.size, hs.mem.below.block⟩ (Nat.le_refl _) (fun _ _ => rfl)
  · have hk0 : ∀ m, m ≤ c → lk t (σ m) = lk t (σ 0) := fun m => by
      induction m with
      | zero => intro _; rfl
      | succ m ih =>
        intro hm2
        have hml : m < l.length := by omega
        obtain ⟨d, tv, e1, _, e2, _⟩ := hst m l[m] (by omega) (List.getElem?_eq_getElem hml) objs
        rw [e2, bI, if_neg]
        · exact ih (by omega)
        · intro e
          have := h4 m (by omega) (by unfold ce; simp [hml, e1, e])
          rw [hrep] at this; cases this
    rw [hk0 c (Nat.le_refl _), hs1 0 (Nat.zero_le _), h1 t] at hv
    have hst : jz w objs { w with drawn := w.drawn + 1 } objs := ⟨fun _ _ _ => rfl, fun _ _ h => h, fun _ _ _ rows _ _ h => ⟨⟨rows, h⟩, rfl⟩, Nat.le_refl _, fun h => h⟩
    exact (hs.env t v hv).step hst⟩
variable {K : Env → Prop} {rest : List Oper} {d T0 : Nat} {pos : String} {af : Array Edge}
theorem aaY (h : K env) : DU P w0 N K [] env := .nil _ h
end
section
variable {P : Program} {w0 : World} {N : Nat} {Q : Exit → Act → World → Prop} {objs objs' : aI} {ops : Array Oper} {env : Env} {o : Oper}
variable {rest : List Oper} {d T0 : Nat} {pos : String} {af : Array Edge} {g : Option (Nat × Bool)}
end
section
variable {P : Program} {w0 : World} {N : Nat} {Q : Exit → Act → World → Prop} {objs objs' : aI} {ops : Array Oper} {env : Env} {o : Oper}
end
section
structure Yd (P : Program) (w0 : World) (env : Env) (objs : aI) (o : Oper) (tv : TV) : Prop where
  go : aS P w0 env objs o tv
variable {P : Program} {w0 : World} {N : Nat} {Q : Exit → Act → World → Prop} {env : Env} {objs : aI} {ops : Array Oper} {rest : List Oper} {d T0 : Nat} {dd : Option Nat} {pos : String} {af : Array Edge} {g : Option (Nat × Bool)}
theorem yv {x : Operand} {tv : TV} (hx : ev env x = some tv) : Yd P w0 env objs ⟨dd, .move x, T0, pos, af, g⟩ (tv) := ⟨aa0 rfl hx⟩
theorem pX {x : Operand} {tv : TV} (hx : ev env x = some tv) : Yd P w0 env objs ⟨dd, .assign x, T0, pos, af, g⟩ (tv) := ⟨vr rfl hx⟩
theorem uR {c x y : Operand} {tv cv : TV} (hc : ev env c = some cv) (he : cv = .bool true) (hx : ev env x = some tv) : Yd P w0 env objs ⟨dd, .pick c x y, T0, pos, af, g⟩ (tv) := ⟨aaC rfl hc he hx⟩
theorem uT {c x y : Operand} {tv cv : TV} (hc : ev env c = some cv) (he : cv = .bool false) (hx : ev env y = some tv) : Yd P w0 env objs ⟨dd, .pick c x y, T0, pos, af, g⟩ (tv) := ⟨aau rfl hc he hx⟩
theorem qW {T : TypeId} {x : Operand} {c : TV} {rr : List TV} {s b m j off : Nat} {rows : List (List TV)} {r0 : List TV} (_hA : agT T = false) (hT : gY P T = true) (hx : ev env x = some (.me s b m j off)) (hm : (s, b, bu.row m rows) ∈ objs) (hr : rows[j]? = some r0) (hl : r0.drop off = c :: rr) : Yd P w0 env objs ⟨dd, .load T x, T0, pos, af, g⟩ (c) := ⟨xy rfl hT hx (fun _ => .me s b m j off rows r0 hm hr) hl⟩
theorem ny {T : TypeId} {x : Operand} {c : TV} {rr : List TV} {f : Nat} {l : List TV} (_hA : agT T = false) (hT : gY P T = true) (hx : ev env x = some (.cp f l)) (hl : l = c :: rr) : Yd P w0 env objs ⟨dd, .load T x, T0, pos, af, g⟩ (c) := ⟨xy rfl hT hx (fun _ => .cp f l) hl⟩
theorem rL {T : TypeId} {x : Operand} {c : TV} {rr : List TV} {s b off : Nat} {cells : List TV} (_hA : agT T = false) (hT : gY P T = true) (hx : ev env x = some (.mp s b off)) (hm : (s, b, bu.box cells) ∈ objs) (hl : cells.drop off = c :: rr) : Yd P w0 env objs ⟨dd, .load T x, T0, pos, af, g⟩ (c) := ⟨xy rfl hT hx (fun _ => .mp s b off cells hm) hl⟩
theorem jy {T : TypeId} {x : Operand} {tv tv2 : TV} {i : Nat} (hx : ev env x = some tv) (hF : mU P T i = true) (ht : abu (ofT T i) tv = some tv2) : Yd P w0 env objs ⟨dd, .fieldAddr T x i, T0, pos, af, g⟩ (tv2) := ⟨tp rfl hx hF ht⟩
theorem jq {T : TypeId} {x i : Operand} {f m : Nat} {rows : List (List TV)} {kk : IntKind} {n : Int} {j : Nat} {r : List TV} (hx : ev env x = some (.sl f m rows)) (hi : ev env i = some (.int kk n)) (hT : P.underlying T = some (.slice (P.elem T))) (hI : (P.info? (P.elem T)).isSome = true) (hm : P.cellsOf (P.elem T) = m) (hm0 : Nat.blt 0 m = true) (hn : n = (j : Int)) (hr : rows[j]? = some r) : Yd P w0 env objs ⟨dd, .indexAddr T x i, T0, pos, af, g⟩ (.cp f r) := ⟨tK rfl hx hi hT hI hm hm0 hn hr⟩
theorem iU {T : TypeId} {x i : Operand} {s b off len m : Nat} {rows : List (List TV)} {kk : IntKind} {n : Int} {j jj : Nat} (hx : ev env x = some (.ms s b off len)) (hi : ev env i = some (.int kk n)) (hobj : (s, b, bu.row m rows) ∈ objs) (hT : P.underlying T = some (.slice (P.elem T))) (hI : (P.info? (P.elem T)).isSome = true) (hm : P.cellsOf (P.elem T) = m) (hn : n = (j : Int)) (hk : j < len) (hkk : off + j = jj) : Yd P w0 env objs ⟨dd, .indexAddr T x i, T0, pos, af, g⟩ (.me s b m jj 0) := ⟨hkk ▸ nE rfl hx hi hobj hT hI hm hn hk⟩
theorem ug {x : Operand} {t : TypeId} {s : ByteArray} (hx : ev env x = some (.str s)) (hT : P.underlying t = some .string) : Yd P w0 env objs ⟨dd, .call { callee := .builtin .len, args := #[x], argTypes := #[t] }, T0, pos, af, g⟩ (.int .i64 (s.size : Int)) := ⟨abE rfl hx hT⟩
theorem qM {x : Operand} {t : TypeId} {f m n : Nat} {rows : List (List TV)} (hx : ev env x = some (.sl f m rows)) (hT : P.underlying t = some (.slice (P.elem t))) (hn : rows.length = n) : Yd P w0 env objs ⟨dd, .call { callee := .builtin .len, args := #[x], argTypes := #[t] }, T0, pos, af, g⟩ (.int .i64 (n : Int)) := ⟨aam rfl hx hT hn⟩
theorem vE {x : Operand} {t : TypeId} {s b off len : Nat} (hx : ev env x = some (.ms s b off len)) (hT : P.underlying t = some (.slice (P.elem t))) : Yd P w0 env objs ⟨dd, .call { callee := .builtin .len, args := #[x], argTypes := #[t] }, T0, pos, af, g⟩ (.int .i64 (len : Int)) := ⟨zI rfl hx hT⟩
theorem oC {x : Operand} {t : TypeId} (hx : ev env x = some .nils) (hT : P.underlying t = some (.slice (P.elem t))) : Yd P w0 env objs ⟨dd, .call { callee := .builtin .len, args := #[x], argTypes := #[t] }, T0, pos, af, g⟩ (.int .i64 0) := ⟨wQ rfl hx hT⟩
theorem abY {t t2 : TypeId} {x y : Operand} {k : IntKind} {m n : Int} (hx : ev env x = some (.int k m)) (hy : ev env y = some (.int k n)) : Yd P w0 env objs ⟨dd, .binOp .eql t x y t2, T0, pos, af, g⟩ (.bool (decide (m = n))) := ⟨ac5 rfl hx hy⟩
theorem ab4 {t t2 : TypeId} {x y : Operand} {k : IntKind} {m n : Int} (hx : ev env x = some (.int k m)) (hy : ev env y = some (.int k n)) : Yd P w0 env objs ⟨dd, .binOp .neq t x y t2, T0, pos, af, g⟩ (.bool (decide (m ≠ n))) := ⟨acZ rfl hx hy⟩
theorem abM {t t2 : TypeId} {x y : Operand} {k : IntKind} {m n : Int} (hx : ev env x = some (.int k m)) (hy : ev env y = some (.int k n)) : Yd P w0 env objs ⟨dd, .binOp .lss t x y t2, T0, pos, af, g⟩ (.bool (decide (m < n))) := ⟨acX rfl hx hy⟩
theorem abI {t t2 : TypeId} {x y : Operand} {k : IntKind} {m n : Int} (hx : ev env x = some (.int k m)) (hy : ev env y = some (.int k n)) : Yd P w0 env objs ⟨dd, .binOp .leq t x y t2, T0, pos, af, g⟩ (.bool (decide (m ≤ n))) := ⟨adb rfl hx hy⟩
theorem abq {t t2 : TypeId} {x y : Operand} {k : IntKind} {m n : Int} (hx : ev env x = some (.int k m)) (hy : ev env y = some (.int k n)) : Yd P w0 env objs ⟨dd, .binOp .gtr t x y t2, T0, pos, af, g⟩ (.bool (decide (n < m))) := ⟨adf rfl hx hy⟩
theorem abv {t t2 : TypeId} {x y : Operand} {k : IntKind} {m n : Int} (hx : ev env x = some (.int k m)) (hy : ev env y = some (.int k n)) : Yd P w0 env objs ⟨dd, .binOp .geq t x y t2, T0, pos, af, g⟩ (.bool (decide (n ≤ m))) := ⟨adq rfl hx hy⟩
theorem abG {t t2 : TypeId} {x y : Operand} {k : IntKind} {m n c : Int} (hx : ev env x = some (.int k m)) (hy : ev env y = some (.int k n)) (hc : k.wrap (m + n) = c) : Yd P w0 env objs ⟨dd, .binOp .add t x y t2, T0, pos, af, g⟩ (.int k c) := ⟨ade rfl hx hy hc⟩
theorem abK {t t2 : TypeId} {x y : Operand} {k : IntKind} {m n c : Int} (hx : ev env x = some (.int k m)) (hy : ev env y = some (.int k n)) (hc : k.wrap (m - n) = c) : Yd P w0 env objs ⟨dd, .binOp .sub t x y t2, T0, pos, af, g⟩ (.int k c) := ⟨adr rfl hx hy hc⟩
theorem abg {t t2 : TypeId} {x y : Operand} {k : IntKind} {m n c : Int} (hx : ev env x = some (.int k m)) (hy : ev env y = some (.int k n)) (hc : k.wrap (m * n) = c) : Yd P w0 env objs ⟨dd, .binOp .mul t x y t2, T0, pos, af, g⟩ (.int k c) := ⟨adz rfl hx hy hc⟩
theorem nf {T : TypeId} {x i : Operand} {s : ByteArray} {kk : IntKind} {n : Int} {j : Nat} (hx : ev env x = some (.str s)) (hi : ev env i = some (.int kk n)) (hT : P.underlying T = some .string) (hn : n = (j : Int)) (hk : j < s.size) : Yd P w0 env objs ⟨dd, .index T x i, T0, pos, af, g⟩ (.int .u8 (bat s j)) := ⟨xU rfl hx hi hT hn hk⟩
theorem ya {t : TypeId} {x : Operand} {v : TV} (hx : ev env x = some v) (he : v = .bool true) : Yd P w0 env objs ⟨dd, .unOp .not t x, T0, pos, af, g⟩ (.bool false) := ⟨uy (b := true) rfl (he ▸ hx)⟩
theorem yD {t : TypeId} {x : Operand} {v : TV} (hx : ev env x = some v) (he : v = .bool false) : Yd P w0 env objs ⟨dd, .unOp .not t x, T0, pos, af, g⟩ (.bool true) := ⟨uy (b := false) rfl (he ▸ hx)⟩
theorem acQ {t : TypeId} {x : Operand} {p : Prop} {i : Decidable p} {v : TV} (hx : ev env x = some v) (he : v = .bool (@decide p i)) : Yd P w0 env objs ⟨dd, .unOp .not t x, T0, pos, af, g⟩ (.bool (decide (¬ p))) := ⟨ado rfl (he ▸ hx)⟩
theorem yy {t : TypeId} {x : Operand} {b : Bool} {v : TV} (hx : ev env x = some v) (he : v = .bool b) : Yd P w0 env objs ⟨dd, .unOp .not t x, T0, pos, af, g⟩ (.bool (!b)) := ⟨uy rfl (he ▸ hx)⟩
theorem xr {t t2 : TypeId} {x y : Operand} {s u : ByteArray} (hx : ev env x = some (.str s)) (hy : ev env y = some (.str u)) : Yd P w0 env objs ⟨dd, .binOp .eql t x y t2, T0, pos, af, g⟩ (.bool (decide (s = u))) := ⟨aba rfl hx hy⟩
theorem xO {t t2 : TypeId} {x y : Operand} {s u : ByteArray} (hx : ev env x = some (.str s)) (hy : ev env y = some (.str u)) : Yd P w0 env objs ⟨dd, .binOp .neq t x y t2, T0, pos, af, g⟩ (.bool (decide (s ≠ u))) := ⟨abc rfl hx hy⟩
theorem kE {src dst : TypeId} {x : Operand} {k k2 : IntKind} {m c : Int} (hx : ev env x = some (.int k m)) (hk : kdT dst = some k2) (hs : (P.underlying src).isSome = true) (hd : P.underlying dst = some (.int k2)) (hc : k2.wrap m = c) : Yd P w0 env objs ⟨dd, .convert src dst x, T0, pos, af, g⟩ (.int k2 c) := ⟨vM rfl hx hk hs hd hc⟩
theorem gE {x : Operand} {f : Nat} {l : List TV} (hx : ev env x = some (.cp f l)) : Yd P w0 env objs ⟨dd, .nilCheck x, T0, pos, af, g⟩ (.cp f l) := ⟨kp rfl hx (fun _ => .cp f l)⟩
theorem jI {x : Operand} {s b off : Nat} {cells : List TV} (hx : ev env x = some (.mp s b off)) (hm : (s, b, bu.box cells) ∈ objs) : Yd P w0 env objs ⟨dd, .nilCheck x, T0, pos, af, g⟩ (.mp s b off) := ⟨kp rfl hx (fun _ => .mp s b off cells hm)⟩
theorem jY {x : Operand} {s b m j off : Nat} {rows : List (List TV)} {r0 : List TV} (hx : ev env x = some (.me s b m j off)) (hm : (s, b, bu.row m rows) ∈ objs) (hr : rows[j]? = some r0) : Yd P w0 env objs ⟨dd, .nilCheck x, T0, pos, af, g⟩ (.me s b m j off) := ⟨kp rfl hx (fun _ => .me s b m j off rows r0 hm hr)⟩
theorem jX {T : TypeId} {x : Operand} {out : List TV} {s b m j off : Nat} {rows : List (List TV)} {r0 : List TV} (_hA : agT T = true) (hT : iY P T = true) (hi : (P.info? T).isSome = true) (hs : P.cellsOf T = szT T) (hx : ev env x = some (.me s b m j off)) (hm : (s, b, bu.row m rows) ∈ objs) (hr : rows[j]? = some r0) (htk : fr (szT T) (r0.drop off) out) : Yd P w0 env objs ⟨dd, .load T x, T0, pos, af, g⟩ (.agg out) := ⟨eZ rfl hT hi hs hx (fun _ => .me s b m j off rows r0 hm hr) htk⟩
theorem gj {T : TypeId} {x : Operand} {out : List TV} {f : Nat} {l : List TV} (_hA : agT T = true) (hT : iY P T = true) (hi : (P.info? T).isSome = true) (hs : P.cellsOf T = szT T) (hx : ev env x = some (.cp f l)) (htk : fr (szT T) (l) out) : Yd P w0 env objs ⟨dd, .load T x, T0, pos, af, g⟩ (.agg out) := ⟨eZ rfl hT hi hs hx (fun _ => .cp f l) htk⟩
theorem j9 {T : TypeId} {x : Operand} {out : List TV} {s b off : Nat} {cells : List TV} (_hA : agT T = true) (hT : iY P T = true) (hi : (P.info? T).isSome = true) (hs : P.cellsOf T = szT T) (hx : ev env x = some (.mp s b off)) (hm : (s, b, bu.box cells) ∈ objs) (htk : fr (szT T) (cells.drop off) out) : Yd P w0 env objs ⟨dd, .load T x, T0, pos, af, g⟩ (.agg out) := ⟨eZ rfl hT hi hs hx (fun _ => .mp s b off cells hm) htk⟩
theorem lX {x : Operand} {i : Nat} {l : List TV} {u : TV} (hx : ev env x = some (.tup l)) (ht : l[i]? = some u) : Yd P w0 env objs ⟨dd, .extract x i, T0, pos, af, g⟩ (u) := ⟨xv rfl hx ht⟩
theorem adM {t t2 : TypeId} {x y : Operand} {k : IntKind} {m n : Int} (hx : ev env x = some (.int k m)) (hy : ev env y = some (.int k n)) : Yd P w0 env objs ⟨dd, .binOp .or t x y t2, T0, pos, af, g⟩ (.int k (orI k m n)) := ⟨adO rfl hx hy⟩
theorem aci {t t2 : TypeId} {x y : Operand} {k : IntKind} {m n : Int} (hx : ev env x = some (.int k m)) (hy : ev env y = some (.int k n)) : Yd P w0 env objs ⟨dd, .binOp .and t x y t2, T0, pos, af, g⟩ (.int k (adJ k m n)) := ⟨ac8 rfl hx hy⟩
theorem y9 {T : TypeId} {x : Operand} {i : Nat} {l : List TV} {u : TV} (hx : ev env x = some (.agg l)) (hF : mU P T i = true) (hS : gY P ((P.fieldsOf T).getD i default).type = true) (ht : l[ofT T i]? = some u) : Yd P w0 env objs ⟨dd, .field T x i, T0, pos, af, g⟩ (u) := ⟨abN rfl hx hF hS ht⟩
theorem oK {T : TypeId} {x : Operand} {s : ByteArray} {lo hi : Operand} {k1 k2 : IntKind} {i j : Nat} {m n : Int} (hx : ev env x = some (.str s)) (hlo : ev env lo = some (.int k1 m)) (hhi : ev env hi = some (.int k2 n)) (hT : P.underlying T = some .string) (hm : m = (i : Int)) (hn : n = (j : Int)) (h1 : i ≤ j) (h2 : j ≤ s.size) : Yd P w0 env objs ⟨dd, .slice T x (some lo) (some hi) none, T0, pos, af, g⟩ (.str (s.extract i j)) := ⟨wc rfl hx hlo hhi hT hm hn h1 h2⟩
theorem re {T : TypeId} {x : Operand} {s : ByteArray} {lo : Operand} {k1 : IntKind} {i : Nat} {m : Int} (hx : ev env x = some (.str s)) (hlo : ev env lo = some (.int k1 m)) (hT : P.underlying T = some .string) (hm : m = (i : Int)) (h1 : i ≤ s.size) : Yd P w0 env objs ⟨dd, .slice T x (some lo) none none, T0, pos, af, g⟩ (.str (s.extract i s.size)) := ⟨xK rfl hx hlo hT hm h1⟩
theorem rk {T : TypeId} {x : Operand} {s : ByteArray} {hi : Operand} {k2 : IntKind} {j : Nat} {n : Int} (hx : ev env x = some (.str s)) (hhi : ev env hi = some (.int k2 n)) (hT : P.underlying T = some .string) (hn : n = (j : Int)) (h2 : j ≤ s.size) : Yd P w0 env objs ⟨dd, .slice T x none (some hi) none, T0, pos, af, g⟩ (.str (s.extract 0 j)) := ⟨yx rfl hx hhi hT hn h2⟩
theorem acs {t t2 : TypeId} {x y : Operand} {k : IntKind} {m n c : Int} (hx : ev env x = some (.int k m)) (hy : ev env y = some (.int k n)) (hn : n ≠ 0) (hc : k.wrap (m.tdiv n) = c) : Yd P w0 env objs ⟨dd, .binOp .quo t x y t2, T0, pos, af, g⟩ (.int k c) := ⟨adB rfl hx hy hn hc⟩
theorem acM {t t2 : TypeId} {x y : Operand} {k : IntKind} {m n c : Int} (hx : ev env x = some (.int k m)) (hy : ev env y = some (.int k n)) (hn : n ≠ 0) (hc : m.tmod n = c) : Yd P w0 env objs ⟨dd, .binOp .rem t x y t2, T0, pos, af, g⟩ (.int k c) := ⟨adv rfl hx hy hn hc⟩
theorem xA {t t2 : TypeId} {x y : Operand} {s u : ByteArray} (hx : ev env x = some (.str s)) (hy : ev env y = some (.str u)) (hl : s.size + u.size ≤ 9223372036854775807) : Yd P w0 env objs ⟨dd, .binOp .add t x y t2, T0, pos, af, g⟩ (.str (s ++ u)) := ⟨abp rfl hx hy hl⟩
theorem yS {t t2 : TypeId} {x y : Operand} {b c : Bool} (hx : ev env x = some (.bool b)) (hy : ev env y = some (.bool c)) (hu : P.underlying t = some .bool) : Yd P w0 env objs ⟨dd, .binOp .eql t x y t2, T0, pos, af, g⟩ (.bool (b == c)) := ⟨abD rfl hx hy hu⟩
theorem yw {t t2 : TypeId} {x y : Operand} {b c : Bool} (hx : ev env x = some (.bool b)) (hy : ev env y = some (.bool c)) (hu : P.underlying t = some .bool) : Yd P w0 env objs ⟨dd, .binOp .neq t x y t2, T0, pos, af, g⟩ (.bool (b != c)) := ⟨abZ rfl hx hy hu⟩
theorem aco {t t2 : TypeId} {x y : Operand} {k k2 : IntKind} {m n : Int} (hx : ev env x = some (.int k m)) (hy : ev env y = some (.int k2 n)) (hn : 0 ≤ n) : Yd P w0 env objs ⟨dd, .binOp .shl t x y t2, T0, pos, af, g⟩ (.int k (acS k m n)) := ⟨adc rfl hx hy hn⟩
theorem yk {T t2 : TypeId} {x y : Operand} {l l' : List TV} (hx : ev env x = some (.agg l)) (hy : ev env y = some (.agg l')) (hT : aa3 P T l l' = true) : Yd P w0 env objs ⟨dd, .binOp .eql T x y t2, T0, pos, af, g⟩ (.bool (eqL l l')) := ⟨abr rfl hx hy hT⟩
theorem yE {T t2 : TypeId} {x y : Operand} {l l' : List TV} (hx : ev env x = some (.agg l)) (hy : ev env y = some (.agg l')) (hT : aa3 P T l l' = true) : Yd P w0 env objs ⟨dd, .binOp .neq T x y t2, T0, pos, af, g⟩ (.bool (!(eqL l l'))) := ⟨abP rfl hx hy hT⟩
theorem o_y {op : Op} {tv : TV} (hy : Yd P w0 env objs ⟨some d, op, T0, pos, af, g⟩ tv) (hN : Nat.blt d N = true) (h : AL P w0 N ops Q rest ((d, tv) :: env) objs) : AO P w0 N ops Q ⟨some d, op, T0, pos, af, g⟩ rest env objs := uM rfl hN hy.go h
theorem d_y {K : Env → Prop} {op : Op} {tv : TV} (hy : Yd P w0 env objs ⟨some d, op, T0, pos, af, g⟩ tv) (hN : Nat.blt d N = true) (h : DR P w0 N ops objs K rest ((d, tv) :: env)) : DO P w0 N ops objs K ⟨some d, op, T0, pos, af, g⟩ rest env := ⟨fun hgr => .run _ _ _ _ _ rfl hN hgr hy.go h⟩
theorem u_y {K : Env → Prop} {op : Op} {tv : TV} (hy : ∀ objs, Yd P w0 env objs ⟨some d, op, T0, pos, af, none⟩ tv) (hN : Nat.blt d N = true) (h : DU P w0 N K rest ((d, tv) :: env)) : DU P w0 N K (⟨some d, op, T0, pos, af, none⟩ :: rest) env := .run _ _ _ _ _ rfl hN rfl (fun o => (hy o).go) h
end
structure Bx (B : Prop) : Prop where
  go : B
theorem y_ {A : Prop} (h : A := by (first | (first | ((with_reducible first | apply yv | apply pX | apply gE); rfl) | ((with_reducible apply uR); rfl; (with_reducible rfl); rfl) | ((with_reducible apply uT); rfl; (with_reducible rfl); rfl) | ((with_reducible apply qW); rfl; kernel_rfl; rfl; (repeat (first | with_reducible exact mh | with_reducible refine mt ?_)); (first | (with_reducible assumption) | (refine aH ?_; omega) | (refine fi ?_; simp only [List.length_set, List.length_map]; omega) | exact rfl | assumption); rfl) | ((with_reducible apply ny); rfl; kernel_rfl; rfl; rfl) | ((with_reducible apply rL); rfl; kernel_rfl; rfl; (repeat (first | with_reducible exact mh | with_reducible refine mt ?_)); rfl) | ((with_reducible apply jy); rfl; kernel_rfl; rfl) | ((with_reducible apply jq); rfl; rfl; kernel_rfl; kernel_rfl; kernel_rfl; rfl; (first | (with_reducible first | exact rfl | exact mC | exact nw | exact mr | exact mF) | exact rfl | exact cg (by omega) | omega); (first | (with_reducible assumption) | (refine aH ?_; omega) | (refine fi ?_; simp only [List.length_set, List.length_map]; omega) | exact rfl | assumption)) | ((with_reducible apply iU); rfl; rfl; (repeat (first | with_reducible exact mh | with_reducible refine mt ?_)); kernel_rfl; kernel_rfl; kernel_rfl; (first | (with_reducible first | exact rfl | exact mC | exact nw | exact mr | exact mF) | exact rfl | exact cg (by omega) | omega); (first | assumption | omega); (first | with_reducible exact Nat.zero_add _ | rfl)) | ((with_reducible apply ug); rfl; kernel_rfl) | ((with_reducible apply qM); rfl; kernel_rfl; (first | exact List.length_map _ | rfl)) | ((with_reducible apply vE); rfl; kernel_rfl) | ((with_reducible apply oC); rfl; kernel_rfl) | ((with_reducible first | apply abY | apply ab4 | apply abM | apply abI | apply abq | apply abv | apply lX | apply adM | apply aci); rfl; rfl) | ((with_reducible first | apply abG | apply abK | apply abg); rfl; rfl; (first | ((with_reducible first | refine aaR ?_ | refine aa6 ?_ | refine aa7 ?_ | refine rJ ?_ | refine IntWalk.i64_in _ ?_ | refine aaM _ ?_); omega) | ((with_reducible refine IntWalk.i64_in _ ?_); omega) | (with_reducible assumption) | exact rfl)) | ((with_reducible apply nf); rfl; rfl; kernel_rfl; (first | (with_reducible first | exact rfl | exact mC | exact nw | exact mr | exact mF) | exact rfl | exact cg (by omega) | omega); (first | assumption | omega)) | ((with_reducible apply ya); rfl; (with_reducible rfl)) | ((with_reducible apply yD); rfl; (with_reducible rfl)) | ((with_reducible apply acQ); rfl; (with_reducible rfl)) | ((with_reducible apply yy); rfl; (with_reducible rfl)) | ((with_reducible first | apply xr | apply xO); rfl; rfl) | ((with_reducible apply kE); rfl; rfl; kernel_rfl; kernel_rfl; (first | ((with_reducible first | refine aaR ?_ | refine aa6 ?_ | refine aa7 ?_ | refine rJ ?_ | refine IntWalk.i64_in _ ?_ | refine aaM _ ?_); omega) | ((with_reducible refine IntWalk.i64_in _ ?_); omega) | (with_reducible assumption) | exact rfl)) | ((with_reducible apply jI); rfl; (repeat (first | with_reducible exact mh | with_reducible refine mt ?_))) | ((with_reducible apply jY); rfl; (repeat (first | with_reducible exact mh | with_reducible refine mt ?_)); (first | (with_reducible assumption) | (refine aH ?_; omega) | (refine fi ?_; simp only [List.length_set, List.length_map]; omega) | exact rfl | assumption)) | ((with_reducible apply jX); rfl; kernel_rfl; kernel_rfl; kernel_rfl; rfl; (repeat (first | with_reducible exact mh | with_reducible refine mt ?_)); (first | (with_reducible assumption) | (refine aH ?_; omega) | (refine fi ?_; simp only [List.length_set, List.length_map]; omega) | exact rfl | assumption); (first | exact .zero _ | exact .succ _ _ _ _ (.zero _) | exact .succ _ _ _ _ (.succ _ _ _ _ (.zero _)) | exact .succ _ _ _ _ (.succ _ _ _ _ (.succ _ _ _ _ (.zero _))) | exact .succ _ _ _ _ (.succ _ _ _ _ (.succ _ _ _ _ (.succ _ _ _ _ (.zero _)))) | (repeat (first | exact .zero _ | apply fr.succ)))) | ((with_reducible apply gj); rfl; kernel_rfl; kernel_rfl; kernel_rfl; rfl; (first | exact .zero _ | exact .succ _ _ _ _ (.zero _) | exact .succ _ _ _ _ (.succ _ _ _ _ (.zero _)) | exact .succ _ _ _ _ (.succ _ _ _ _ (.succ _ _ _ _ (.zero _))) | exact .succ _ _ _ _ (.succ _ _ _ _ (.succ _ _ _ _ (.succ _ _ _ _ (.zero _)))) | (repeat (first | exact .zero _ | apply fr.succ)))) | ((with_reducible apply j9); rfl; kernel_rfl; kernel_rfl; kernel_rfl; rfl; (repeat (first | with_reducible exact mh | with_reducible refine mt ?_)); (first | exact .zero _ | exact .succ _ _ _ _ (.zero _) | exact .succ _ _ _ _ (.succ _ _ _ _ (.zero _)) | exact .succ _ _ _ _ (.succ _ _ _ _ (.succ _ _ _ _ (.zero _))) | exact .succ _ _ _ _ (.succ _ _ _ _ (.succ _ _ _ _ (.succ _ _ _ _ (.zero _)))) | (repeat (first | exact .zero _ | apply fr.succ)))) | ((with_reducible apply y9); rfl; kernel_rfl; kernel_rfl; rfl) | ((with_reducible apply oK); rfl; rfl; rfl; kernel_rfl; (first | (with_reducible first | exact rfl | exact mC | exact nw | exact mr | exact mF) | exact rfl | exact cg (by omega) | omega); (first | (with_reducible first | exact rfl | exact mC | exact nw | exact mr | exact mF) | exact rfl | exact cg (by omega) | omega); (first | assumption | omega); (first | assumption | omega)) | ((with_reducible apply re); rfl; rfl; kernel_rfl; (first | (with_reducible first | exact rfl | exact mC | exact nw | exact mr | exact mF) | exact rfl | exact cg (by omega) | omega); (first | assumption | omega)) | ((with_reducible apply rk); rfl; rfl; kernel_rfl; (first | (with_reducible first | exact rfl | exact mC | exact nw | exact mr | exact mF) | exact rfl | exact cg (by omega) | omega); (first | assumption | omega)) | ((with_reducible apply acs); rfl; rfl; omega; (first | ((with_reducible first | refine aaR ?_ | refine aa6 ?_ | refine aa7 ?_ | refine rJ ?_ | refine IntWalk.i64_in _ ?_ | refine aaM _ ?_); omega) | ((with_reducible refine IntWalk.i64_in _ ?_); omega) | (with_reducible assumption) | exact rfl)) | ((with_reducible apply acM); rfl; rfl; omega; exact rfl) | ((with_reducible apply xA); rfl; rfl; (first | assumption | omega)) | ((with_reducible first | apply yS | apply yw); rfl; rfl; kernel_rfl) | ((with_reducible apply aco); rfl; rfl; omega) | ((with_reducible first | apply yk | apply yE); rfl; rfl; kernel_rfl)) | fail)) : A := h
theorem yu_ {A : Prop} (h : A := by (first | (intro objs; first | ((with_reducible first | apply yv | apply pX | apply gE); rfl) | ((with_reducible apply ny); rfl; kernel_rfl; rfl; rfl) | ((with_reducible apply jy); rfl; kernel_rfl; rfl) | ((with_reducible apply jq); rfl; rfl; kernel_rfl; kernel_rfl; kernel_rfl; rfl; (first | (with_reducible first | exact rfl | exact mC | exact nw | exact mr | exact mF) | exact rfl | exact cg (by omega) | omega); (first | (with_reducible assumption) | (refine aH ?_; omega) | (refine fi ?_; simp only [List.length_set, List.length_map]; omega) | exact rfl | assumption)) | ((with_reducible apply ug); rfl; kernel_rfl) | ((with_reducible apply qM); rfl; kernel_rfl; (first | exact List.length_map _ | rfl)) | ((with_reducible first | apply abY | apply ab4 | apply abM | apply abI | apply abq | apply abv | apply lX); rfl; rfl) | ((with_reducible first | apply abG | apply abK | apply abg); rfl; rfl; (first | ((with_reducible first | refine aaR ?_ | refine aa6 ?_ | refine aa7 ?_ | refine rJ ?_ | refine IntWalk.i64_in _ ?_ | refine aaM _ ?_); omega) | ((with_reducible refine IntWalk.i64_in _ ?_); omega) | (with_reducible assumption) | exact rfl)) | ((with_reducible apply nf); rfl; rfl; kernel_rfl; (first | (with_reducible first | exact rfl | exact mC | exact nw | exact mr | exact mF) | exact rfl | exact cg (by omega) | omega); (first | assumption | omega)) | ((with_reducible apply kE); rfl; rfl; kernel_rfl; kernel_rfl; (first | ((with_reducible first | refine aaR ?_ | refine aa6 ?_ | refine aa7 ?_ | refine rJ ?_ | refine IntWalk.i64_in _ ?_ | refine aaM _ ?_); omega) | ((with_reducible refine IntWalk.i64_in _ ?_); omega) | (with_reducible assumption) | exact rfl)) | ((with_reducible apply gj); rfl; kernel_rfl; kernel_rfl; kernel_rfl; rfl; (first | exact .zero _ | exact .succ _ _ _ _ (.zero _) | exact .succ _ _ _ _ (.succ _ _ _ _ (.zero _)) | exact .succ _ _ _ _ (.succ _ _ _ _ (.succ _ _ _ _ (.zero _))) | exact .succ _ _ _ _ (.succ _ _ _ _ (.succ _ _ _ _ (.succ _ _ _ _ (.zero _)))) | (repeat (first | exact .zero _ | apply fr.succ))))) | fail)) : A := h
theorem rr_ {A : Prop} (h : A := by (first | with_reducible rfl | fail)) : A := h
theorem dd_ {A : Prop} (h : A := by (first | assumption | omega | fail)) : A := h
theorem ai {A B : Prop} (h : B) (hi : Bx B → A := by (first | (intro hB; (with_reducible apply abi); rfl; rfl; kernel_rfl; exact hB.go) | fail)) : A := hi ⟨h⟩
theorem lz {A B : Prop} (h : B) (hi : Bx B → A := by (first | (intro hB; (with_reducible apply p9); rfl; rfl; kernel_rfl; kernel_rfl; rfl; kernel_rfl; rfl; rfl; rfl; rfl; exact hB.go) | fail)) : A := hi ⟨h⟩
theorem de {A B : Prop} (h : B) (hi : Bx B → A := by (first | (intro hB; (with_reducible apply acb); rfl; rfl; rfl; (first | (with_reducible first | exact rfl | exact mC | exact nw | exact mr | exact mF) | exact rfl | exact cg (by omega) | omega); kernel_rfl; kernel_rfl; rfl; rfl; kernel_rfl; omega; exact hB.go) | fail)) : A := hi ⟨h⟩
theorem aE {A B : Prop} (h : B) (hi : Bx B → A := by (first | (intro hB; (with_reducible apply acY); rfl; rfl; rfl; exact hB.go) | fail)) : A := hi ⟨h⟩
theorem dA {A B : Prop} (h : B) (hi : Bx B → A := by (first | (intro hB; (with_reducible apply ady); rfl; rfl; kernel_rfl; kernel_rfl; rfl; kernel_rfl; rfl; rfl; rfl; rfl; exact hB.go) | fail)) : A := hi ⟨h⟩
theorem acJ {A B : Prop} (h : B) (hi : Bx B → A := by (first | (intro hB; (with_reducible apply ac9); rfl; rfl; kernel_rfl; kernel_rfl; rfl; kernel_rfl; rfl; rfl; rfl; rfl; exact hB.go) | fail)) : A := hi ⟨h⟩
theorem ad {A B : Prop} (h : B) (hi : Bx B → A := by (first | (intro hB; (with_reducible apply wv); rfl; rfl; rfl; kernel_rfl; (repeat (first | with_reducible exact mh | with_reducible refine mt ?_)); (first | exact .nil _ | exact .put _ _ _ _ _ (.nil _) | exact .skip _ _ _ _ _ (.put _ _ _ _ _ (.nil _)) | exact .skip _ _ _ _ _ (.skip _ _ _ _ _ (.put _ _ _ _ _ (.nil _))) | (repeat (first | exact .nil _ | apply cz.put | apply cz.skip))); (repeat (first | with_reducible exact Upd.head _ | with_reducible apply Upd.tail)); kernel_rfl; exact hB.go) | fail)) : A := hi ⟨h⟩
theorem a6 {A B : Prop} (h : B) (hi : Bx B → A := by (first | (intro hB; (with_reducible apply wl); rfl; rfl; rfl; kernel_rfl; (repeat (first | with_reducible exact mh | with_reducible refine mt ?_)); (first | (with_reducible assumption) | (refine aH ?_; omega) | (refine fi ?_; simp only [List.length_set, List.length_map]; omega) | exact rfl | assumption); (first | exact .nil _ | exact .put _ _ _ _ _ (.nil _) | exact .skip _ _ _ _ _ (.put _ _ _ _ _ (.nil _)) | exact .skip _ _ _ _ _ (.skip _ _ _ _ _ (.put _ _ _ _ _ (.nil _))) | (repeat (first | exact .nil _ | apply cz.put | apply cz.skip))); kernel_rfl; rfl; (repeat (first | with_reducible exact Upd.head _ | with_reducible apply Upd.tail)); exact hB.go) | fail)) : A := hi ⟨h⟩
theorem rd {A B : Prop} (h : B) (hi : Bx B → A := by (first | (intro hB; (with_reducible apply eT); rfl; rfl; rfl; kernel_rfl; (repeat (first | with_reducible exact mh | with_reducible refine mt ?_)); (first | with_reducible assumption | exact aP _ | exact aq _ | exact aQ _ | exact List.length_map _ | assumption | rfl); (first | (show List.length _ = 1; rfl) | (show List.length _ = 2; rfl) | (show List.length _ = 0; rfl) | (show List.length _ = 3; rfl) | (first | with_reducible assumption | exact aP _ | exact aq _ | exact aQ _ | exact List.length_map _ | assumption | rfl)); omega; rfl; (intro bq; (repeat (first | with_reducible exact Upd.head _ | with_reducible apply Upd.tail))); exact hB.go) | fail)) : A := hi ⟨h⟩
theorem acq {A B : Prop} (h : B) (hi : Bx B → A := by (first | (intro hB; (with_reducible apply vP); rfl; rfl; rfl; kernel_rfl; (repeat (first | with_reducible exact mh | with_reducible refine mt ?_)); (with_reducible assumption); (first | assumption | omega); (first | (show List.length _ = 1; rfl) | (show List.length _ = 2; rfl) | (show List.length _ = 0; rfl) | (show List.length _ = 3; rfl) | (first | with_reducible assumption | exact aP _ | exact aq _ | exact aQ _ | exact List.length_map _ | assumption | rfl)); omega; (intro bq pq; (repeat (first | with_reducible exact Upd.head _ | with_reducible apply Upd.tail))); exact hB.go) | fail)) : A := hi ⟨h⟩
theorem kn {A B : Prop} (h : B) (hi : Bx B → A := by (first | (intro hB; (with_reducible apply aa9); rfl; rfl; (repeat (first | exact TB.nil _ | ((with_reducible apply TB.cons); rfl; rfl; (first | exact .nil _ | exact .put _ _ _ _ _ (.nil _) | exact .skip _ _ _ _ _ (.put _ _ _ _ _ (.nil _)) | exact .skip _ _ _ _ _ (.skip _ _ _ _ _ (.put _ _ _ _ _ (.nil _))) | (repeat (first | exact .nil _ | apply cz.put | apply cz.skip))); kernel_rfl))); kernel_rfl; kernel_rfl; exact hB.go) | fail)) : A := hi ⟨h⟩
theorem aac {A B : Prop} (h : B) (hi : Bx B → A := by (first | (intro hB; (with_reducible apply abQ); rfl; rfl; (repeat (first | exact TB.nil _ | ((with_reducible apply TB.cons); rfl; rfl; (first | exact .nil _ | exact .put _ _ _ _ _ (.nil _) | exact .skip _ _ _ _ _ (.put _ _ _ _ _ (.nil _)) | exact .skip _ _ _ _ _ (.skip _ _ _ _ _ (.put _ _ _ _ _ (.nil _))) | (repeat (first | exact .nil _ | apply cz.put | apply cz.skip))); kernel_rfl))); kernel_rfl; kernel_rfl; exact hB.go) | fail)) : A := hi ⟨h⟩
theorem aa8 {A B : Prop} (h : B) (hi : Bx B → A := by (first | (intro hB; (with_reducible apply wd); rfl; rfl; rfl; (repeat (first | with_reducible exact mh | with_reducible refine mt ?_)); kernel_rfl; kernel_rfl; kernel_rfl; (first | (with_reducible first | exact rfl | exact mC | exact nw | exact mr | exact mF) | exact rfl | exact cg (by omega) | omega); (first | assumption | omega); exact hB.go) | fail)) : A := hi ⟨h⟩
theorem uu {A B : Prop} (h : B) (hi : Bx B → A := by (first | (intro hB; (with_reducible apply ri); rfl; rfl; rfl; kernel_rfl; kernel_rfl; (first | (with_reducible first | exact rfl | exact mC | exact nw | exact mr | exact mF) | exact rfl | exact cg (by omega) | omega); (first | assumption | omega); (first | (with_reducible assumption) | rfl); exact hB.go) | fail)) : A := hi ⟨h⟩
theorem iT {A B : Prop} (h : B) (hi : Bx B → A := by (first | (intro hB; (with_reducible apply si); rfl; rfl; rfl; kernel_rfl; kernel_rfl; (first | (with_reducible first | exact rfl | exact mC | exact nw | exact mr | exact mF) | exact rfl | exact cg (by omega) | omega); (first | assumption | omega); (first | (with_reducible assumption) | rfl); exact hB.go) | fail)) : A := hi ⟨h⟩
theorem aca {A B : Prop} (h : B) (hi : Bx B → A := by (first | (intro hB; (with_reducible apply rE); rfl; rfl; rfl; kernel_rfl; kernel_rfl; kernel_rfl; (first | (with_reducible first | exact rfl | exact mC | exact nw | exact mr | exact mF) | exact rfl | exact cg (by omega) | omega); (first | assumption | omega); (first | (with_reducible assumption) | rfl); exact hB.go) | fail)) : A := hi ⟨h⟩
theorem lv {A B : Prop} (h : B) (hi : Bx B → A := by (first | (intro hB; (with_reducible apply ws); rfl; (repeat (first | exact Evs.nil | ((with_reducible apply Evs.cons); rfl))); exact hB.go) | fail)) : A := hi ⟨h⟩
theorem pk_ {A : Prop} (h : A := by (first | ((try dsimp only); (repeat (first | with_reducible exact dg.refl _ | with_reducible exact dg.nil _ | (apply dg.consE; (repeat (first | with_reducible exact xa.head _ | with_reducible apply xa.tail)); (first | with_reducible rfl | (focus (simp [aO, nts]; done)) | (focus (simp [aO, nts]; omega)) | rfl)) | ((fail_if_success (apply dg.consE)); refine dg.drop ?_)))) | fail)) : A := h
theorem nw_ {A : Prop} (h : A := by (first | (repeat (first | exact dw.envNil | refine dw.envCons (by first | rfl | exact acW rfl (by first | omega | (simp; done) | (simp; omega)) | exact fw rfl (by simp [*]) | exact i8 rfl (by simp [*]) | exact acz rfl (by simp [*])) ?_)) | fail)) : A := h
theorem od_ {A : Prop} (h : A := by (first | (repeat (first | exact dw.envNil | refine dw.envCons rfl ?_)) | fail)) : A := h
theorem x_ {A : Prop} (h : A := by (first | (first | exact .inl rfl | exact .inr rfl) | fail)) : A := h
theorem mm_ {A : Prop} (h : A := by (first | ((repeat (first | with_reducible exact mh | with_reducible refine mt ?_))) | fail)) : A := h
theorem kp_ {A : Prop} (h : A := by (first | (repeat (first | exact iO.nil | (apply iO.cons; rfl))) | fail)) : A := h
structure Bk (_k : Nat) (B : Prop) : Prop where
  go : B
theorem qz {P : Program} {w0 : World} {N : Nat} {Q : Exit → Act → World → Prop} {env : Env} {objs : aI} {B : Prop} {k : Nat} {ops : Array Oper} {b : Bool} {y : Code} (_ : Bk k B) (h : adk (AW P w0 N (.seq (.region k ops b) y) Q env objs)) : AW P w0 N (.seq (.region k ops b) y) Q env objs := h.go
theorem W_ {A B : Prop} (h : B) (hi : Bx B → A := by (first | (intro hB; (first | ((with_reducible apply o_y); exact y_; rfl) | with_reducible refine ch rfl ?_ | (with_reducible first | apply cE | apply bJ | apply dX | apply cO | apply bV | apply cS | apply cU | apply ea | apply aY | apply (aR rfl) | apply aZ | apply ba | apply aX | apply bZ) | refine ff rfl rfl rfl rr_ ?_ | refine dH rfl rfl rfl rr_ rfl rfl rfl ?_ | refine cT rfl rfl rfl rr_ rfl rfl ?_ | refine jo rfl rfl rfl rr_ dd_ ?_ | refine jd rfl rfl rfl rr_ dd_ ?_ | refine bM rfl rr_ ?_ | refine bN rfl rr_ ?_ | refine bw rfl rr_ dd_ ?_ | refine bz rfl rr_ dd_ ?_); (repeat (first | ((with_reducible apply o_y); exact y_; rfl) | with_reducible refine ch rfl ?_ | (with_reducible first | apply cE | apply bJ | apply dX | apply cO | apply bV | apply cS | apply cU | apply ea | apply aY | apply (aR rfl) | apply aZ | apply ba | apply aX | apply bZ) | refine ff rfl rfl rfl rr_ ?_ | refine dH rfl rfl rfl rr_ rfl rfl rfl ?_ | refine cT rfl rfl rfl rr_ rfl rfl ?_ | refine jo rfl rfl rfl rr_ dd_ ?_ | refine jd rfl rfl rfl rr_ dd_ ?_ | refine bM rfl rr_ ?_ | refine bN rfl rr_ ?_ | refine bw rfl rr_ dd_ ?_ | refine bz rfl rr_ dd_ ?_)); exact hB.go) | fail)) : A := hi ⟨h⟩
theorem V_ {A B : Prop} (h : B) (hi : Bx B → A := by (first | (intro hB; (first | ((with_reducible apply o_y); exact y_; rfl) | with_reducible refine ch rfl ?_ | (with_reducible first | apply cE | apply bJ | apply dX | apply cO | apply bV | apply cS | apply cU | apply ea | apply aY | apply (aR rfl) | apply aZ | apply ba | apply aX | apply bZ) | refine ff rfl rfl rfl rr_ ?_ | refine dH rfl rfl rfl rr_ rfl rfl rfl ?_ | refine cT rfl rfl rfl rr_ rfl rfl ?_ | refine jo rfl rfl rfl rr_ dd_ ?_ | refine jd rfl rfl rfl rr_ dd_ ?_ | refine bM rfl rr_ ?_ | refine bN rfl rr_ ?_ | refine bw rfl rr_ dd_ ?_ | refine bz rfl rr_ dd_ ?_ | ((with_reducible apply d_y); exact y_; rfl) | with_reducible refine f8 (by kernel_rfl) (by kernel_rfl) ?_ | with_reducible refine kf ?_ | with_reducible refine gA ?_ | with_reducible refine gB rfl ?_ | refine jM rfl rfl rfl rr_ ?_ | refine gz rfl rfl rfl rr_ rfl rfl rfl ?_ | refine eW rfl rfl rfl rr_ rfl rfl ?_ | refine pO rfl rfl rfl rr_ dd_ ?_ | refine qx rfl rfl rfl rr_ dd_ ?_); (repeat (first | ((with_reducible apply o_y); exact y_; rfl) | with_reducible refine ch rfl ?_ | (with_reducible first | apply cE | apply bJ | apply dX | apply cO | apply bV | apply cS | apply cU | apply ea | apply aY | apply (aR rfl) | apply aZ | apply ba | apply aX | apply bZ) | refine ff rfl rfl rfl rr_ ?_ | refine dH rfl rfl rfl rr_ rfl rfl rfl ?_ | refine cT rfl rfl rfl rr_ rfl rfl ?_ | refine jo rfl rfl rfl rr_ dd_ ?_ | refine jd rfl rfl rfl rr_ dd_ ?_ | refine bM rfl rr_ ?_ | refine bN rfl rr_ ?_ | refine bw rfl rr_ dd_ ?_ | refine bz rfl rr_ dd_ ?_ | ((with_reducible apply d_y); exact y_; rfl) | with_reducible refine f8 (by kernel_rfl) (by kernel_rfl) ?_ | with_reducible refine kf ?_ | with_reducible refine gA ?_ | with_reducible refine gB rfl ?_ | refine jM rfl rfl rfl rr_ ?_ | refine gz rfl rfl rfl rr_ rfl rfl rfl ?_ | refine eW rfl rfl rfl rr_ rfl rfl ?_ | refine pO rfl rfl rfl rr_ dd_ ?_ | refine qx rfl rfl rfl rr_ dd_ ?_)); exact hB.go) | fail)) : A := hi ⟨h⟩
theorem H_ {A B : Prop} (k : Nat) (h : B) (hi : Bk k B → A := by (first | (intro hB; (first | (with_reducible refine qz hB ?_) | ((with_reducible apply o_y); exact y_; rfl) | with_reducible refine ch rfl ?_ | (with_reducible first | apply cE | apply bJ | apply dX | apply cO | apply bV | apply cS | apply cU | apply ea | apply aY | apply (aR rfl) | apply aZ | apply ba | apply aX | apply bZ) | refine ff rfl rfl rfl rr_ ?_ | refine dH rfl rfl rfl rr_ rfl rfl rfl ?_ | refine cT rfl rfl rfl rr_ rfl rfl ?_ | refine jo rfl rfl rfl rr_ dd_ ?_ | refine jd rfl rfl rfl rr_ dd_ ?_ | refine bM rfl rr_ ?_ | refine bN rfl rr_ ?_ | refine bw rfl rr_ dd_ ?_ | refine bz rfl rr_ dd_ ?_); (repeat (first | (with_reducible refine qz hB ?_) | ((with_reducible apply o_y); exact y_; rfl) | with_reducible refine ch rfl ?_ | (with_reducible first | apply cE | apply bJ | apply dX | apply cO | apply bV | apply cS | apply cU | apply ea | apply aY | apply (aR rfl) | apply aZ | apply ba | apply aX | apply bZ) | refine ff rfl rfl rfl rr_ ?_ | refine dH rfl rfl rfl rr_ rfl rfl rfl ?_ | refine cT rfl rfl rfl rr_ rfl rfl ?_ | refine jo rfl rfl rfl rr_ dd_ ?_ | refine jd rfl rfl rfl rr_ dd_ ?_ | refine bM rfl rr_ ?_ | refine bN rfl rr_ ?_ | refine bw rfl rr_ dd_ ?_ | refine bz rfl rr_ dd_ ?_)); exact hB.go) | fail)) : A := hi ⟨h⟩
theorem HV_ {A B : Prop} (k : Nat) (h : B) (hi : Bk k B → A := by (first | (intro hB; (first | (with_reducible refine qz hB ?_) | ((with_reducible apply o_y); exact y_; rfl) | with_reducible refine ch rfl ?_ | (with_reducible first | apply cE | apply bJ | apply dX | apply cO | apply bV | apply cS | apply cU | apply ea | apply aY | apply (aR rfl) | apply aZ | apply ba | apply aX | apply bZ) | refine ff rfl rfl rfl rr_ ?_ | refine dH rfl rfl rfl rr_ rfl rfl rfl ?_ | refine cT rfl rfl rfl rr_ rfl rfl ?_ | refine jo rfl rfl rfl rr_ dd_ ?_ | refine jd rfl rfl rfl rr_ dd_ ?_ | refine bM rfl rr_ ?_ | refine bN rfl rr_ ?_ | refine bw rfl rr_ dd_ ?_ | refine bz rfl rr_ dd_ ?_ | ((with_reducible apply d_y); exact y_; rfl) | with_reducible refine f8 (by kernel_rfl) (by kernel_rfl) ?_ | with_reducible refine kf ?_ | with_reducible refine gA ?_ | with_reducible refine gB rfl ?_ | refine jM rfl rfl rfl rr_ ?_ | refine gz rfl rfl rfl rr_ rfl rfl rfl ?_ | refine eW rfl rfl rfl rr_ rfl rfl ?_ | refine pO rfl rfl rfl rr_ dd_ ?_ | refine qx rfl rfl rfl rr_ dd_ ?_); (repeat (first | (with_reducible refine qz hB ?_) | ((with_reducible apply o_y); exact y_; rfl) | with_reducible refine ch rfl ?_ | (with_reducible first | apply cE | apply bJ | apply dX | apply cO | apply bV | apply cS | apply cU | apply ea | apply aY | apply (aR rfl) | apply aZ | apply ba | apply aX | apply bZ) | refine ff rfl rfl rfl rr_ ?_ | refine dH rfl rfl rfl rr_ rfl rfl rfl ?_ | refine cT rfl rfl rfl rr_ rfl rfl ?_ | refine jo rfl rfl rfl rr_ dd_ ?_ | refine jd rfl rfl rfl rr_ dd_ ?_ | refine bM rfl rr_ ?_ | refine bN rfl rr_ ?_ | refine bw rfl rr_ dd_ ?_ | refine bz rfl rr_ dd_ ?_ | ((with_reducible apply d_y); exact y_; rfl) | with_reducible refine f8 (by kernel_rfl) (by kernel_rfl) ?_ | with_reducible refine kf ?_ | with_reducible refine gA ?_ | with_reducible refine gB rfl ?_ | refine jM rfl rfl rfl rr_ ?_ | refine gz rfl rfl rfl rr_ rfl rfl rfl ?_ | refine eW rfl rfl rfl rr_ rfl rfl ?_ | refine pO rfl rfl rfl rr_ dd_ ?_ | refine qx rfl rfl rfl rr_ dd_ ?_)); exact hB.go) | fail)) : A := hi ⟨h⟩
structure Bc (p q B C : Prop) : Prop where
  t : p → B
  f : q → C
theorem c_ {A B C p q : Prop} (h1 : p → B) (h2 : q → C) (hi : Bc p q B C → A := by (first | (intro hB; first | refine ee rfl rr_ hB.t hB.f | refine cW rfl rr_ hB.t hB.f) | fail)) : A := hi ⟨h1, h2⟩
theorem g_ {A B C p q : Prop} (h1 : p → B) (h2 : q → C) (hi : Bc p q B C → A := by (first | (intro hB; first | refine dy rfl rfl rfl rr_ hB.t hB.f | refine dn rfl rfl rfl rr_ hB.t hB.f | refine eG rfl rfl rfl rr_ hB.t hB.f | refine et rfl rfl rfl rr_ hB.t hB.f) | fail)) : A := hi ⟨h1, h2⟩
theorem r1_ {A : Prop} (h : A := by (first | (exact aB x_ rfl (.tmp _ _ rfl) fun _ => Fin.flat rfl) | fail)) : A := h
section
variable {P : Program} {w0 : World} {G : World → Prop} {f : Nat} {args : List TV} {r : Nat → TV}
structure Cx (P : Program) (w0 : World) (G : World → Prop) (f : Nat) (args : List TV) (r : Nat → TV) (B : Prop) : Prop where
  hG : G w0
  hst : az G
  ct : Ct P G f args r
  go : B
theorem ye {N : Nat} {Q : Exit → Act → World → Prop} {env : Env} {objs : aI} {ops : Array Oper} {rest : List Oper} {d T0 : Nat} {pos : String} {af : Array Edge} {g : Option (Nat × Bool)} {xs : List Operand} {ts : Array TypeId} (hN : Nat.blt d N = true) (hc : fW P f = true) (hct : Ct P G f args r) (hargs : cf env objs xs args) (hG : G w0) (hst : az G) (h : AL P w0 N ops Q rest ((d, r w0.heap.size) :: env) objs) : AO P w0 N ops Q ⟨some d, .call { callee := .value (.func f), args := xs.toArray, argTypes := ts }, T0, pos, af, g⟩ rest env objs := fN hN hc hargs hG hst hct h
theorem yl {N : Nat} {K : Env → Prop} {env : Env} {objs : aI} {ops : Array Oper} {rest : List Oper} {d T0 : Nat} {pos : String} {af : Array Edge} {g : Option (Nat × Bool)} {xs : List Operand} {ts : Array TypeId} (hN : Nat.blt d N = true) (hc : fW P f = true) (hct : Ct P G f args r) (hargs : cf env objs xs args) (hG : G w0) (hst : az G) (h : DR P w0 N ops objs K rest ((d, r w0.heap.size) :: env)) : DO P w0 N ops objs K ⟨some d, .call { callee := .value (.func f), args := xs.toArray, argTypes := ts }, T0, pos, af, g⟩ rest env := xW hN hc hargs hG hst hct h
theorem ab {A B : Prop} (hG : G w0) (hst : az G) (hct : Ct P G f args r) (h : B) (hi : Cx P w0 G f args r B → A := by (first | (intro hB; (with_reducible apply ye); rfl; kernel_rfl; exact (Cx.ct hB); ((repeat (first | exact cf.nil | ((with_reducible apply cf.cons); rfl; exact .same _)))); exact (Cx.hG hB); exact (Cx.hst hB); exact (Cx.go hB)) | fail)) : A := hi ⟨hG, hst, hct, h⟩
theorem ac {A B : Prop} (hG : G w0) (hst : az G) (hct : Ct P G f args r) (h : B) (hi : Cx P w0 G f args r B → A := by (first | (intro hB; (with_reducible apply yl); rfl; kernel_rfl; exact (Cx.ct hB); ((repeat (first | exact cf.nil | ((with_reducible apply cf.cons); rfl; exact .same _)))); exact (Cx.hG hB); exact (Cx.hst hB); exact (Cx.go hB)) | fail)) : A := hi ⟨hG, hst, hct, h⟩
theorem fh {A B : Prop} (hG : G w0) (hst : az G) (hct : Ct P G f args r) (h : B) (hi : Cx P w0 G f args r B → A := by (first | (intro hB; (with_reducible apply ye); rfl; kernel_rfl; exact (Cx.ct hB); ((repeat (first | exact cf.nil | ((with_reducible apply cf.cons); rfl; (first | with_reducible exact ci.same _ | ((with_reducible apply ci.msAll); (repeat (first | with_reducible exact mh | with_reducible refine mt ?_)); (first | with_reducible assumption | exact aP _ | exact aq _ | exact aQ _ | exact List.length_map _ | assumption | rfl)) | ((with_reducible apply view_code); (repeat (first | with_reducible exact mh | with_reducible refine mt ?_)); (first | with_reducible assumption | exact aP _ | exact aq _ | exact aQ _ | exact List.length_map _ | assumption | rfl)) | ((with_reducible apply ci.cut); exact ci.cp0 _ _; rfl)))))); exact (Cx.hG hB); exact (Cx.hst hB); exact (Cx.go hB)) | fail)) : A := hi ⟨hG, hst, hct, h⟩
theorem bY {A B : Prop} (hG : G w0) (hst : az G) (hct : Ct P G f args r) (h : B) (hi : Cx P w0 G f args r B → A := by (first | (intro hB; (with_reducible apply yl); rfl; kernel_rfl; exact (Cx.ct hB); ((repeat (first | exact cf.nil | ((with_reducible apply cf.cons); rfl; (first | with_reducible exact ci.same _ | ((with_reducible apply ci.msAll); (repeat (first | with_reducible exact mh | with_reducible refine mt ?_)); (first | with_reducible assumption | exact aP _ | exact aq _ | exact aQ _ | exact List.length_map _ | assumption | rfl)) | ((with_reducible apply view_code); (repeat (first | with_reducible exact mh | with_reducible refine mt ?_)); (first | with_reducible assumption | exact aP _ | exact aq _ | exact aQ _ | exact List.length_map _ | assumption | rfl)) | ((with_reducible apply ci.cut); exact ci.cp0 _ _; rfl)))))); exact (Cx.hG hB); exact (Cx.hst hB); exact (Cx.go hB)) | fail)) : A := hi ⟨hG, hst, hct, h⟩
end
set_option maxRecDepth 20000
theorem ol {P : Program} {G : World → Prop} {f : FuncId} {s : ByteArray} {n : Int} (h : ∀ w, G w → Calls P f #[.string s] w fun e w' => e = .returned (.int .i64 n) ∧ Below w.heap.size w w') : Ct P G f [.str s] (fun _ => .int .i64 n) := fun w vs _ hG hs hr => by
  obtain ⟨v, rfl, h1⟩ := abm hs hr
  rw [h1.str_inv]
  refine (h w hG).mono ?_
  rintro e w' ⟨rfl, hb⟩
  exact ⟨_, rfl, hb, fun _ _ => .int _ _⟩
def ag.tv (x : ag) : List TV := [.int .i64 x.op, .int .i64 x.a, .int .i64 x.b, .str x.text]
set_option maxRecDepth 4000 in
set_option maxHeartbeats 2000000 in
theorem rR {G : World → Prop} (hst : az G) (hca : ∀ s : ByteArray, s.size ≤ 1048576 → Ct Tryz.prog G 204 [.str s] (fun _ => .int .i64 (bT s.data.toList))) (op a b : Int) (t : ByteArray) (hs : t.size ≤ 1048576) (hop : inR op 1 26 = true) : Ct Tryz.prog G 261 [.agg [.int .i64 op, .int .i64 a, .int .i64 b, .str t]] (fun _ => .tup [.int .i64 (ag.eff ⟨op, a, b, t⟩).1, .int .i64 (ag.eff ⟨op, a, b, t⟩).2]) := by
  refine ao Tryz.func261 rfl Tryz.ntmps261 rfl rfl fun w0 _ hG => ?_
  have h1 := pB t.data.toList
  have h2 := pY t.data.toList
  simp only [inR, decide_eq_true_eq] at hop
  repeat' (first | refine W_ ?_ | refine aE ?_ | refine ab hG hst (hca _ hs) ?_ | refine c_ (fun hc => ?_) (fun hc => ?_) | refine g_ (fun hg => ?_) (fun hg => ?_))
  all_goals
    clear hst
    have he : ag.eff ⟨op, a, b, t⟩ = ag.eff ⟨op, a, b, t⟩ := rfl
    conv at he => rhs; unfold ag.eff
    dsimp only at he
    rw [he]
    refine d9 x_ rfl (.tmp _ _ rfl) (.tmp _ _ rfl) (fun _ => ?_) (fun _ => ?_)
    all_goals
      refine xh ?_
      first
        | (subst hc; simp; done)
        | (have h3 : op = 20 ∨ op = 23 := by omega
           rcases h3 with rfl | rfl <;> simp; done)
set_option maxRecDepth 20000
def dQ (is : List ag) : List (List TV) := is.map ag.tv
theorem jC (is : List ag) : (dQ is).length = is.length := by simp [dQ]
def iy (n i : Nat) : List Int := List.replicate i (-1) ++ List.replicate (n - i) 0
theorem oh {n i : Nat} (h : i < n) : (aO (iy n i))[i]? = some [.int .i64 0] ∧ (aO (iy n i)).set i [.int .i64 (-1)] = aO (iy n (i + 1)) := by
  have e : n - i = (n - (i + 1)) + 1 := by omega
  refine ⟨?_, ?_⟩
  · simp only [aO, iy, List.getElem?_map]
    rw [List.getElem?_append_right (by simp), e, List.replicate_succ]; simp
  · simp only [aO, iy]
    rw [e, List.replicate_succ, ← List.map_set]
    congr 1
    rw [List.set_append_right _ _ (by simp)]
    simp [List.replicate_succ', List.append_assoc]
def dO (r : Option (List Int)) (y : Nat × Nat) : aI := [(y.1, y.2, .row 1 (aO (r.getD [])))]
def dR (r : Option (List Int)) (y : Nat × Nat) : TV := .tup [.ms y.1 y.2 0 (r.getD []).length, .bool r.isSome]
set_option maxRecDepth 4000 in
set_option maxHeartbeats 4000000 in
theorem lg {G : World → Prop} (hst : az G) (hca : ∀ s : ByteArray, s.size ≤ 1048576 → Ct Tryz.prog G 204 [.str s] (fun _ => .int .i64 (bT s.data.toList))) (lo l2 : Nat) (bl : Bool) (pr sl : Int) (is : List ag) (hn : is.length ≤ 1048576) (ht : ∀ i ∈ is, i.text.size ≤ 1048576) (hp : jm is = true) :
    CtM Tryz.prog G 206 [.cp lo [.bool bl, .int .i64 pr, .int .i64 sl, .sl l2 4 (dQ is)]] [] (fun _ : Nat × Nat => True) (dO (cM is)) (dR (cM is)) := by
  refine aC Tryz.func206 rfl Tryz.ntmps206 rfl rfl rfl fun w0 R gs objsR hG hR => ?_
  obtain rfl := hR.inv0
  have hlen := jC is
  repeat' (first | refine W_ ?_ | (refine de ?_; intro ss bb) | refine c_ (fun hc => ?_) (fun hc => ?_) | refine g_ (fun hg => ?_) (fun hg => ?_))
  have h0 : (List.replicate is.length [TV.int .i64 0]) = aO (iy is.length 0) := by simp [iy, aO]
  apply aj (X := Nat) [0, 4, 1000000] (fun i => [(5, .int .i64 (i : Int))]) (fun i => (ss, bb, .row 1 (aO (iy is.length i))) :: R) (fun i => i ≤ is.length) (fun i => is.length - i) 0 (Nat.zero_le _)
  exact kp_; exact nw_
  · rw [← h0]; exact .refl _
  intro i hi
  try dsimp only at hi ⊢
  by_cases hlt : i < is.length
  · obtain ⟨hrow, hset⟩ := oh hlt
    repeat' (first | refine W_ ?_ | refine a6 ?_ | refine c_ (fun hc => ?_) (fun hc => ?_) | refine g_ (fun hg => ?_) (fun hg => ?_))
    rw [hset]
    refine ah (i + 1) (by omega) (by omega) (.of _ nw_ od_ (.refl _))
  · obtain rfl : i = is.length := by omega
    by_cases hz : is.length = 0
    · have hd : cM is = none := by unfold cM; rw [if_pos hz]
      rw [hd]
      repeat' (first | refine W_ ?_ | (refine lz ?_; intro ss bb) | refine c_ (fun hc => ?_) (fun hc => ?_) | refine g_ (fun hg => ?_) (fun hg => ?_))
      refine db 2 1 (by omega) rfl fun ss => dp x_ rfl (ss, 0) trivial rfl (.cons _ _ _ _ (.nil R)) pk_ (.tmp _ _ rfl) (.tmp _ _ rfl) rfl
    · have hrow0 : (aO (iy is.length is.length))[0]? = some [.int .i64 (-1)] := by
        simp only [iy, aO, List.getElem?_map]
        rw [List.getElem?_append_left (by simp; omega), List.getElem?_replicate, if_pos (by omega)]; rfl
      have hset0 : (aO (iy is.length is.length)).set 0 [.int .i64 0] = aO (0 :: List.replicate (is.length - 1) (-1)) := by
        have e : is.length = (is.length - 1) + 1 := by omega
        simp only [iy, aO, Nat.sub_self, List.replicate_zero, List.append_nil]
        rw [e, List.replicate_succ]; rfl
      have hnz : 0 < is.length := by omega
      have hdS : qi is (rG is) is.length (0 :: List.replicate (is.length - 1) (-1)) [0] = cM is := by unfold cM; rw [if_neg hz]
      generalize ss = sd; generalize bb = bd
      repeat' (first | refine W_ ?_ | (refine lz ?_; intro ss bb) | refine a6 ?_ | refine c_ (fun hc => ?_) (fun hc => ?_) | refine g_ (fun hg => ?_) (fun hg => ?_))
      generalize ss = st; generalize bb = bt
      rw [hset0]
      apply aj (X := Nat × List Int × List Nat × Nat × Nat) [0, 4, 1000000] (fun x => [(6, .ms st x.2.2.2.1 0 x.2.2.1.length), (7, .int .i64 (x.1 : Int))]) (fun x => (st, x.2.2.2.1, .row 1 (aO (nts x.2.2.1))) :: (sd, bd, .row 1 (aO x.2.1)) :: R)
        (fun x => x.1 ≤ x.2.2.1.length ∧ x.1 + x.2.2.2.2 ≤ is.length ∧ DSt is.length x.2.1 (x.2.2.1.drop x.1) x.2.2.2.2 ∧ qi is (rG is) x.2.2.2.2 x.2.1 (x.2.2.1.drop x.1) = cM is) (fun x => x.2.2.2.2) (0, 0 :: List.replicate (is.length - 1) (-1), [0], bt, is.length) ⟨Nat.zero_le _, by simp, lM (by omega), hdS⟩
      exact kp_; exact nw_
      · exact .refl _
      rintro ⟨k, ds, td, bt, f⟩ ⟨hk, hkf, hD, hfl⟩
      dsimp only at hk hkf hD hfl ⊢
      by_cases hlt : k < td.length
      · have hg : (aO (nts td))[k]? = some [.int .i64 ((td[k] : Nat) : Int)] := by simp [aO, nts, hlt]
        rw [List.drop_eq_getElem_cons hlt] at hD hfl
        obtain ⟨j, rfl, hD', hpn, hg0⟩ := hD.pop
        rw [hY _ _ _ _ _ hpn] at hfl
        have hrange := hD'.inv.gd (td[k] : Nat)
        have hdl := hD'.len
        have hdi : (aO ds)[td[k]]? = some [.int .i64 (gd ds (td[k] : Nat))] := by
          have h9 := oe (ds := ds) (p := td[k]) (by omega)
          simp only [aO, List.getElem?_map]
          rw [List.getElem?_eq_getElem (by omega), h9]; rfl
        have hii : (dQ is)[td[k]]? = some (is[td[k]]).tv := by simp only [dQ, List.getElem?_map]; rw [List.getElem?_eq_getElem hpn]; rfl
        have hpi : dv is.length is[td[k]] = true := List.all_eq_true.1 hp _ (List.getElem_mem _)
        have hti := ht _ (List.getElem_mem hpn)
        generalize is[td[k]] = ii at hfl hii hpi hti
        obtain ⟨op, a, b, t⟩ := ii
        have her := ij ⟨op, a, b, t⟩
        have hop : inR op 1 26 = true := by simp only [dv, Bool.and_eq_true] at hpi; exact hpi.1.1
        have hef := rR hst hca op a b t hti hop
        replace hii : (dQ is)[td[k]]? = some [.int .i64 op, .int .i64 a, .int .i64 b, .str t] := hii
        have htd : td.length ≤ is.length := by have h9 := hD'.mu; simp at h9; omega
        generalize hp' : td[k] = p at *
        have hstep : rG is ⟨op, a, b, t⟩ p ds = if gd ds p - (ag.eff ⟨op, a, b, t⟩).1 < 0 ∨ 250 < gd ds p - (ag.eff ⟨op, a, b, t⟩).1 + (ag.eff ⟨op, a, b, t⟩).2 then none else iS is p op (ag.nexts ⟨op, a, b, t⟩ p (gd ds p)) (ds, []) := rfl
        have hst1 := fun ds' new h => aaE (i := ⟨op, a, b, t⟩) (ds' := ds') (new := new) hpi hD' (by omega) h
        have hnn := yN (n := is.length) ⟨op, a, b, t⟩ p (gd ds p) hpi
        have hnl := rX ⟨op, a, b, t⟩ p (gd ds p)
        have hnx : ag.nexts ⟨op, a, b, t⟩ p (gd ds p) = ag.nexts ⟨op, a, b, t⟩ p (gd ds p) := rfl
        conv at hnx => rhs; unfold ag.nexts
        dsimp only at hnx
        generalize ag.nexts ⟨op, a, b, t⟩ p (gd ds p) = L at *
        generalize gd ds (p : Int) = g at *
        generalize he1 : (ag.eff ⟨op, a, b, t⟩).1 = e1 at *
        generalize he2 : (ag.eff ⟨op, a, b, t⟩).2 = e2 at *
        simp only [inR, decide_eq_true_eq] at hop
        repeat' (first | ((with_reducible apply o_y); exact y_; rfl) | (refine lz ?_; intro ss bb) | (refine ai ?_; intro ss bb) | refine ad ?_ | refine ab hG hst (hef) ?_ | with_reducible refine qV (id := 4) ?_  | with_reducible refine ch rfl ?_ | (with_reducible first | apply cE | apply bJ | apply dX | apply cO | apply bV | apply cS | apply cU | apply ea | apply aY | apply (aR rfl) | apply aZ | apply ba | apply aX | apply bZ) | refine ff rfl rfl rfl rr_ ?_ | refine dH rfl rfl rfl rr_ rfl rfl rfl ?_ | refine cT rfl rfl rfl rr_ rfl rfl ?_ | (refine jo rfl rfl rfl rr_ dd_ ?_) | (refine jd rfl rfl rfl rr_ dd_ ?_) | (refine dy rfl rfl rfl rr_ (fun hg => ?_) (fun hg => ?_)) | (refine dn rfl rfl rfl rr_ (fun hg => ?_) (fun hg => ?_)) | refine bM rfl rr_ ?_ | refine bN rfl rr_ ?_ | (refine bw rfl rr_ dd_ ?_) | (refine bz rfl rr_ dd_ ?_) | (refine ee rfl rr_ (fun hc => ?_) (fun hc => ?_)) | (refine cW rfl rr_ (fun hc => ?_) (fun hc => ?_)))
        · have hd : cM is = none := by rw [hstep, if_pos (.inl hg)] at hfl; exact hfl.symm
          rw [hd]
          refine db 2 1 (by omega) rfl fun ss => dp x_ rfl (ss, 0) trivial rfl (.cons _ _ _ _ (.nil R)) pk_ (.tmp _ _ rfl) (.tmp _ _ rfl) rfl
        · have hd : cM is = none := by rw [hstep, if_pos (.inr hc)] at hfl; exact hfl.symm
          rw [hd]
          refine db 2 1 (by omega) rfl fun ss => dp x_ rfl (ss, 0) trivial rfl (.cons _ _ _ _ (.nil R)) pk_ (.tmp _ _ rfl) (.tmp _ _ rfl) rfl
        refine ⟨?_⟩
        rw [hstep, if_neg (by omega)] at hfl
        rw [if_neg (by omega)] at hstep
        rename_i s9 b9 s13 b13
        generalize ss = s14; generalize bb = b14
        apply fc (X := Nat × Nat × Nat × Nat × List Int) [0, 4, 6, 7, 8, 9, 1000000] (fun x => [(13, .ms x.1 x.2.1 0 L.length), (14, .ms x.2.2.1 x.2.2.2.1 0 (L.length + x.2.2.2.2.length))])
          (fun x => (x.1, x.2.1, .row 1 (aO (L.map Prod.fst))) :: (x.2.2.1, x.2.2.2.1, .row 1 (aO (L.map Prod.snd ++ x.2.2.2.2))) :: (s9, b9, .box [.int .i64 op, .int .i64 a, .int .i64 b, .str t]) :: (st, bt, .row 1 (aO (nts td))) :: (sd, bd, .row 1 (aO ds)) :: R) (fun x => True)
        case hk => (repeat (first | exact iO.nil | (apply iO.cons; rfl)))
        · clear hfl hst1 hD hD' hstep
          by_cases h19 : op = 19
          · obtain rfl : L = [] := by rw [hnx, if_pos h19]
            repeat' (first | refine W_ ?_ | (refine lz ?_; intro ss bb) | refine c_ (fun hc => ?_) (fun hc => ?_) | refine g_ (fun hg => ?_) (fun hg => ?_))
            refine dN (ss, bb, s14, b14, [g - e1 + e2]) trivial (.of _ nw_ od_ pk_)
          by_cases h20 : op = 20
          · obtain rfl : L = [(a, g - e1 + e2)] := by rw [hnx, if_neg h19, if_pos h20]
            repeat' (first | refine W_ ?_ | (refine lz ?_; intro ss bb) | refine c_ (fun hc => ?_) (fun hc => ?_) | refine g_ (fun hg => ?_) (fun hg => ?_))
            refine dN (ss, bb, s14, b14, []) trivial (.of _ nw_ od_ pk_)
          by_cases h21 : op = 21 ∨ op = 22
          · obtain rfl : L = [((p : Int) + 1, g - e1 + e2), (a, g - e1 + e2), (b, g - e1 + e2 + 1)] := by rw [hnx, if_neg h19, if_neg h20, if_pos h21]
            have he0 : e2 = 0 := by
              rw [← he2]; rcases h21 with rfl | rfl <;> rfl
            subst he0
            rcases h21 with rfl | rfl
            all_goals
              repeat' (first | refine W_ ?_ | refine dA ?_ | (refine rd ?_; intro bb) | refine c_ (fun hc => ?_) (fun hc => ?_) | refine g_ (fun hg => ?_) (fun hg => ?_))
              rename_i bb13
              refine dN (s13, bb13, s14, bb, []) trivial (.of _ nw_ od_ pk_)
          by_cases h24 : op = 24 ∨ op = 25
          · obtain rfl : L = [((p : Int) + 1, g - e1 + e2), (b, g - 1)] := by rw [hnx, if_neg h19, if_neg h20, if_neg h21, if_pos h24]
            have he0 : e1 = 2 := by
              rw [← he1]; rcases h24 with rfl | rfl <;> rfl
            subst he0
            rcases h24 with rfl | rfl
            all_goals
              repeat' (first | refine W_ ?_ | refine dA ?_ | (refine rd ?_; intro bb) | refine c_ (fun hc => ?_) (fun hc => ?_) | refine g_ (fun hg => ?_) (fun hg => ?_))
              rename_i bb13
              refine dN (s13, bb13, s14, bb, []) trivial (.of _ nw_ od_ pk_)
          by_cases h26 : op = 26
          · obtain rfl : L = [((p : Int) + 1, g - e1 + e2), (b, g)] := by rw [hnx, if_neg h19, if_neg h20, if_neg h21, if_neg h24, if_pos h26]
            have he0 : e1 = 2 := by
              rw [← he1, h26]; rfl
            subst he0
            repeat' (first | refine W_ ?_ | refine dA ?_ | (refine rd ?_; intro bb) | refine c_ (fun hc => ?_) (fun hc => ?_) | refine g_ (fun hg => ?_) (fun hg => ?_))
            rename_i bb13
            refine dN (s13, bb13, s14, bb, []) trivial (.of _ nw_ od_ pk_)
          · obtain rfl : L = [((p : Int) + 1, g - e1 + e2)] := by rw [hnx, if_neg h19, if_neg h20, if_neg h21, if_neg h24, if_neg h26]
            repeat' (first | refine W_ ?_ | refine c_ (fun hc => ?_) (fun hc => ?_) | refine g_ (fun hg => ?_) (fun hg => ?_))
            refine dN (s13, b13, s14, b14, []) trivial (.of _ nw_ od_ pk_)
        · rintro ⟨s13', b13', s14', b14', r14⟩ _
          dsimp only
          rw [hstep] at hst1
          clear hnx he1 he2 her hef hpi hstep hD hD'
          repeat' (first | refine W_ ?_ | refine c_ (fun hc => ?_) (fun hc => ?_) | refine g_ (fun hg => ?_) (fun hg => ?_))
          apply aj (X := Nat × List Int × List Nat × Nat) [0, 4, 7, 8, 9, 13, 14, 1000000] (fun x => [(15, .int .i64 (x.1 : Int)), (6, .ms st x.2.2.2 0 (td.length + x.2.2.1.length))])
            (fun x => (s13', b13', .row 1 (aO (L.map Prod.fst))) :: (s14', b14', .row 1 (aO (L.map Prod.snd ++ r14))) :: (s9, b9, .box [.int .i64 op, .int .i64 a, .int .i64 b, .str t]) :: (st, x.2.2.2, .row 1 (aO (nts (td ++ x.2.2.1)))) :: (sd, bd, .row 1 (aO x.2.1)) :: R)
            (fun x => x.1 ≤ L.length ∧ x.2.1.length = is.length ∧ x.2.2.1.length ≤ x.1 ∧ iS is p op (L.drop x.1) (x.2.1, x.2.2.1) = iS is p op L (ds, [])) (fun x => L.length - x.1) (0, ds, [], bt) ⟨Nat.zero_le _, hdl, Nat.zero_le _, rfl⟩
          exact kp_; exact nw_
          · rw [List.append_nil]; exact .refl _
          rintro ⟨q, ds', new, bt'⟩ ⟨hq, hdl', hnw, hpu⟩
          dsimp only at hq hdl' hnw hpu ⊢
          by_cases hql : q < L.length
          · have hu0 := hnn _ (List.getElem_mem hql)
            rw [List.drop_eq_getElem_cons hql] at hpu
            have hr13 : (aO (L.map Prod.fst))[q]? = some [.int .i64 L[q].1] := by simp [aO, hql]
            have hr14 : (aO (L.map Prod.snd ++ r14))[q]? = some [.int .i64 L[q].2] := by
              simp only [aO, List.getElem?_map]
              rw [List.getElem?_append_left (by simpa using hql)]; simp [hql]
            generalize L[q] = uv at hu0 hpu hr13 hr14
            obtain ⟨u, v⟩ := uv
            obtain ⟨un, rfl⟩ : ∃ un : Nat, u = (un : Int) := ⟨u.toNat, by dsimp only at hu0; omega⟩
            dsimp only at hr13 hr14
            rw [wA] at hpu
            repeat' (first | refine H_ 40 ?_ | refine c_ (fun hc => ?_) (fun hc => ?_) | refine g_ (fun hg => ?_) (fun hg => ?_))
            refine ⟨cE ?_⟩
            apply fc (X := Unit) [0, 4, 6, 7, 8, 9, 13, 14, 15, 1000000] (fun _ => [(170, .bool (vN is p op (un : Int)))])
              (fun _ => (s13', b13', .row 1 (aO (L.map Prod.fst))) :: (s14', b14', .row 1 (aO (L.map Prod.snd ++ r14))) :: (s9, b9, .box [.int .i64 op, .int .i64 a, .int .i64 b, .str t]) :: (st, bt', .row 1 (aO (nts (td ++ new)))) :: (sd, bd, .row 1 (aO ds')) :: R) (fun _ => True)
            case hk => (repeat (first | exact iO.nil | (apply iO.cons; rfl)))
            · clear hpu hfl hst1
              by_cases hlen1 : (is.length : Int) ≤ (un : Int)
              · have hb : vN is p op (un : Int) = true := by simp [vN, hlen1]
                rw [hb]
                repeat' (first | refine V_ ?_ | refine c_ (fun hc => ?_) (fun hc => ?_) | refine g_ (fun hg => ?_) (fun hg => ?_))
                refine dN () trivial (.of _ nw_ od_ pk_)
              have hun : un < is.length := by omega
              have hri : (dQ is)[un]? = some (is[un]).tv := by simp only [dQ, List.getElem?_map]; rw [List.getElem?_eq_getElem hun]; rfl
              have hoa : acI is (un : Int) = is[un].op := by simp [acI, hun]
              generalize is[un] = iu at hri hoa
              obtain ⟨op', a', b', t'⟩ := iu
              replace hri : (dQ is)[un]? = some [.int .i64 op', .int .i64 a', .int .i64 b', .str t'] := hri
              have hbs : vN is p op (un : Int) = (!decide (op = 26) && decide ((un : Int) ≤ p) && !decide (op' = 23)) := by simp [vN, fY, hlen1, hoa]
              rw [hbs]
              have hw3 : op = 26 ∨ (¬ op = 26 ∧ (un : Int) ≤ p) ∨ (¬ op = 26 ∧ ¬ (un : Int) ≤ p) := by omega
              rcases hw3 with h26 | ⟨h26, hle⟩ | ⟨h26, hle⟩
              all_goals
                repeat' (first | refine V_ ?_ | refine c_ (fun hc => ?_) (fun hc => ?_) | refine g_ (fun hg => ?_) (fun hg => ?_))
                refine dN () trivial (.of _ nw_ od_ pk_)
            · intro _ _
              by_cases hbad : vN is p op (un : Int) = true
              · have hd : cM is = none := by rw [if_pos hbad] at hpu; rw [← hpu] at hfl; exact hfl.symm
                rw [hd, hbad]
                repeat' (first | with_reducible refine ch rfl ?_ | ((with_reducible first | apply vd | apply lJ); rfl; rfl) | with_reducible refine cE ?_ | with_reducible refine bJ ?_ | with_reducible refine dX ?_ | with_reducible refine cO ?_ | with_reducible refine bV ?_ | with_reducible refine cS ?_ | with_reducible refine cU ?_ | with_reducible refine ea ?_ | with_reducible refine aY ?_ | with_reducible refine aR rfl ?_ | with_reducible refine aZ ?_ | with_reducible refine ba ?_ | with_reducible refine aX ?_ | with_reducible refine bZ ?_ | refine bM rfl rr_ ?_ | refine bN rfl rr_ ?_ | (refine bw rfl rr_ dd_ ?_) | (refine bz rfl rr_ dd_ ?_) | (refine ee rfl rr_ (fun hc => ?_) (fun hc => ?_)) | (refine cW rfl rr_ (fun hc => ?_) (fun hc => ?_)))
                refine db 2 1 (by omega) rfl fun ss => dp x_ rfl (ss, 0) trivial rfl (.cons _ _ _ _ (.nil R)) pk_ (.tmp _ _ rfl) (.tmp _ _ rfl) rfl
              have hun : un < is.length := Nat.lt_of_not_le fun h => hbad (by simp [vN]; left; omega)
              rw [if_neg hbad] at hpu
              rw [Bool.not_eq_true] at hbad
              rw [hbad]
              have hrd : (aO ds')[un]? = some [.int .i64 (gd ds' (un : Int))] := by
                have h9 := oe (ds := ds') (p := un) (by omega)
                simp only [aO, List.getElem?_map]
                rw [List.getElem?_eq_getElem (by omega), h9]; rfl
              have hll : (aO (nts (td ++ new))).length = td.length + new.length := by simp [aO, nts]
              by_cases hgd : gd ds' (un : Int) = -1
              · rw [if_pos hgd] at hpu
                rw [hgd] at hrd
                repeat' (first | refine W_ ?_ | (with_reducible apply pA (id := 43) 10; kernel_rfl; kernel_rfl; kernel_rfl; (repeat (first | exact Cut.zero _ | apply Cut.succ))) | with_reducible refine f8 (by kernel_rfl) (by kernel_rfl) ?_ | with_reducible refine kf ?_ | with_reducible refine gA ?_ | with_reducible refine gB rfl ?_ | refine jM rfl rfl rfl rr_ ?_ | refine gz rfl rfl rfl rr_ rfl rfl rfl ?_ | refine eW rfl rfl rfl rr_ rfl rfl ?_ | (refine pO rfl rfl rfl rr_ dd_ ?_) | (refine qx rfl rfl rfl rr_ dd_ ?_) | (refine eG rfl rfl rfl rr_ (fun hg => ?_) (fun hg => ?_)) | (refine et rfl rfl rfl rr_ (fun hg => ?_) (fun hg => ?_)) | ((with_reducible apply d_y); exact y_; rfl) | refine a6 ?_ | refine dA ?_ | (refine rd ?_; intro bb) | refine c_ (fun hc => ?_) (fun hc => ?_) | refine g_ (fun hg => ?_) (fun hg => ?_))
                refine ah (q + 1, ds'.set un v, new ++ [un], bb) ⟨by dsimp only; omega, by simp [hdl'], by simp; omega, by dsimp only; rw [← hpu]; rfl⟩ (by dsimp only; omega) (.of _ nw_ od_ pk_)
              · rw [if_neg hgd] at hpu
                by_cases hgv : gd ds' (un : Int) = v
                · rw [if_pos hgv] at hpu
                  repeat' (first | refine V_ ?_ | refine c_ (fun hc => ?_) (fun hc => ?_) | refine g_ (fun hg => ?_) (fun hg => ?_))
                  refine ah (q + 1, ds', new, bt') ⟨by dsimp only; omega, hdl', by dsimp only; omega, by dsimp only; exact hpu⟩ (by dsimp only; omega) (.of _ nw_ od_ pk_)
                · rw [if_neg hgv] at hpu
                  have hd : cM is = none := by rw [← hpu] at hfl; exact hfl.symm
                  rw [hd]
                  repeat' (first | refine V_ ?_ | refine c_ (fun hc => ?_) (fun hc => ?_) | refine g_ (fun hg => ?_) (fun hg => ?_))
                  refine db 2 1 (by omega) rfl fun ss => dp x_ rfl (ss, 0) trivial rfl (.cons _ _ _ _ (.nil R)) pk_ (.tmp _ _ rfl) (.tmp _ _ rfl) rfl
          · rw [List.drop_of_length_le (by omega)] at hpu
            rw [← hpu] at hfl
            dsimp only [iS] at hfl
            repeat' (first | refine W_ ?_ | refine c_ (fun hc => ?_) (fun hc => ?_) | refine g_ (fun hg => ?_) (fun hg => ?_))
            refine ah (k + 1, ds', td ++ new, bt', j) ⟨by simp; omega, by dsimp only; omega, ?_, ?_⟩ (by dsimp only; omega) (.of _ nw_ od_ pk_)
            · dsimp only
              rw [List.drop_append_of_le_length (by omega)]
              exact hst1 ds' new hpu.symm
            · dsimp only
              rw [List.drop_append_of_le_length (by omega)]; exact hfl
      · rw [List.drop_eq_nil_of_le (by omega)] at hfl
        have hd : cM is = some ds := by rw [← hfl]; simp [qi]
        have hdl := hD.len
        rw [hd]
        repeat' (first | refine W_ ?_ | refine c_ (fun hc => ?_) (fun hc => ?_) | refine g_ (fun hg => ?_) (fun hg => ?_))
        refine dp x_ rfl (sd, bd) trivial rfl (.cons _ _ _ _ (.nil R)) pk_ (.tmp _ _ rfl) (.tmp _ _ rfl) (by simp [dR, hdl])
end Go.Proofs.YtiihihgjiklnoaaGreatDoor
