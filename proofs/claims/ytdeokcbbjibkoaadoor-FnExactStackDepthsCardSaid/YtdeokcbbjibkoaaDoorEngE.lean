/- The abstract walk, part 5: stores, appends, make, what is given back, calls. -/
import Derived.Test.YtdeokcbbjibkoaaDoorEngD
import Derived.Deep.AppendLies
namespace Go.Proofs.YtdeokcbbjibkoaaDoor
open Go Go.RowKit

/-- One of the owned things is replaced by another. -/
inductive Upd (x x' : Nat × Nat × TObj) : Objs → Objs → Prop
  | head (l : Objs) : Upd x x' (x :: l) (x' :: l)
  | tail (y : Nat × Nat × TObj) (l l' : Objs) (h : Upd x x' l l') : Upd x x' (y :: l) (y :: l')
theorem Upd.mem {x x' : Nat × Nat × TObj} {l l' : Objs} (h : Upd x x' l l') : x ∈ l := by
  induction h with
  | head l => exact List.mem_cons_self
  | tail y l l' h ih => exact List.mem_cons_of_mem _ ih
theorem Upd.other {x x' : Nat × Nat × TObj} {l l' : Objs} (h : Upd x x' l l') (hp : List.Pairwise SiteRel l) : ∀ y ∈ l', y = x' ∨ (y ∈ l ∧ y.1 ≠ x.1 ∧ (y.2.1 ≠ x.2.1 ∨ x.2.1 = 0)) := by
  induction h with
  | head l =>
    intro y hy
    rcases List.mem_cons.1 hy with rfl | hy
    · exact .inl rfl
    · obtain ⟨h1, h2⟩ := (List.pairwise_cons.1 hp).1 y hy
      exact .inr ⟨List.mem_cons_of_mem _ hy, h1.symm, h2.imp Ne.symm id⟩
  | tail z l l' h ih =>
    intro y hy
    rcases List.mem_cons.1 hy with rfl | hy
    · obtain ⟨h1, h2⟩ := (List.pairwise_cons.1 hp).1 x h.mem
      refine .inr ⟨List.mem_cons_self, h1, ?_⟩
      rcases h2 with h2 | h2
      · exact .inl h2
      · by_cases e : y.2.1 = x.2.1
        · exact .inr (e ▸ h2)
        · exact .inl e
    · exact (ih (List.pairwise_cons.1 hp).2 y hy).imp id fun ⟨h1, h2⟩ => ⟨List.mem_cons_of_mem _ h1, h2⟩
theorem Upd.sites {x x' : Nat × Nat × TObj} {l l' : Objs} (h : Upd x x' l l') (hs : x'.1 = x.1) (hp : List.Pairwise SiteRel l) (hb : ∀ y ∈ l, y.1 ≠ x.1 → x'.2.1 ≠ y.2.1 ∨ x'.2.1 = 0) : List.Pairwise SiteRel l' := by
  induction h with
  | head l =>
    obtain ⟨h1, h2⟩ := List.pairwise_cons.1 hp
    exact List.pairwise_cons.2 ⟨fun y hy => ⟨by rw [hs]; exact (h1 y hy).1, hb y (List.mem_cons_of_mem _ hy) (h1 y hy).1.symm⟩, h2⟩
  | tail z l l' h ih =>
    obtain ⟨h1, h2⟩ := List.pairwise_cons.1 hp
    refine List.pairwise_cons.2 ⟨fun y hy => ?_, ih h2 fun y hy => hb y (List.mem_cons_of_mem _ hy)⟩
    rcases h.other h2 y hy with rfl | ⟨hy, _, _⟩
    · have hz := h1 x h.mem
      refine ⟨by rw [hs]; exact hz.1, ?_⟩
      rcases hb z List.mem_cons_self hz.1 with h3 | h3
      · exact .inl h3.symm
      · by_cases e : z.2.1 = 0
        · exact .inr e
        · exact .inl (by rw [h3]; exact e)
    · exact h1 y hy

section
variable {P : Program} {w0 : World} {N : Nat} {Q : Exit → Act → World → Prop} {env : Env} {objs objs' : Objs} {o : Oper}

/-- One owned block has turned, or has been left for a new one. -/
theorem step_upd {w w' : World} (hw : SimW w0 objs w) {s b b' m : Nat} {ob ob' : TObj} (hu : Upd (s, b, ob) (s, b', ob') objs objs') (hsz : w.heap.size ≤ w'.heap.size)
    (hk : ∀ k, k < w.heap.size → k ≠ b ∨ b = 0 → w'.heap[k]? = w.heap[k]?) (hb' : b' = b ∨ w.heap.size ≤ b') (hkind : ∀ rows', ob' = .row m rows' → ∃ rows, ob = .row m rows) (hm : ∀ m' rows', ob' = .row m' rows' → m' = m) (hsh : b' = b → b ≠ 0 → w'.shape? b = w.shape? b) (hmk : marker ≠ (s, b', ob')) : Step w objs w' objs' := by
  have hoth := hu.other hw.sites
  refine ⟨fun k hlt hna => hk k hlt ?_, fun k hlt ha => ?_, fun s1 b1 m1 rows1 hlt hb1 hm1 => ?_, hsz, fun hm => (hoth _ hm).elim (fun e => absurd e hmk) (fun e => e.1)⟩
  · by_cases e : k = b
    · subst e
      by_cases e0 : k = 0
      · exact .inr e0
      · exact absurd ⟨e0, s, ob, hu.mem⟩ hna
    · exact .inl e
  · obtain ⟨h0, s1, o1, h1⟩ := ha
    rcases hoth _ h1 with he | ⟨h2, _⟩
    · simp only [Prod.mk.injEq] at he
      obtain ⟨_, rfl, _⟩ := he
      rcases hb' with rfl | hb'
      · exact ⟨h0, s, ob, hu.mem⟩
      · omega
    · exact ⟨h0, s1, o1, h2⟩
  · rcases hoth _ hm1 with he | ⟨h2, _, h3⟩
    · simp only [Prod.mk.injEq] at he
      obtain ⟨rfl, rfl, rfl⟩ := he
      have hmm := hm m1 rows1 rfl
      subst hmm
      obtain ⟨rows, hr⟩ := hkind rows1 rfl
      rcases hb' with rfl | hb'
      · exact ⟨⟨rows, hr ▸ hu.mem⟩, hsh rfl hb1⟩
      · omega
    · refine ⟨⟨rows1, h2⟩, shape_same (hk b1 hlt ?_)⟩
      exact h3
theorem SimW.upd {w w' : World} (hw : SimW w0 objs w) {s b b' : Nat} {ob ob' : TObj} (hu : Upd (s, b, ob) (s, b', ob') objs objs') (hbel : Below w0.heap.size w0 w')
    (hk : ∀ k, k < w.heap.size → k ≠ b ∨ b = 0 → w'.heap[k]? = w.heap[k]?) (hb' : b' = b ∨ w.heap.size ≤ b') (hst : Step w objs w' objs') (hob : ObjOk w' w0.heap.size objs' b' ob') : SimW w0 objs' w' := by
  refine ⟨hbel, hw.pos, fun s1 b1 o1 hm1 => ?_, hu.sites rfl hw.sites fun y hy hne => ?_⟩
  · rcases hu.other hw.sites _ hm1 with he | ⟨h2, _, h3⟩
    · simp only [Prod.mk.injEq] at he
      obtain ⟨rfl, rfl, rfl⟩ := he
      exact hob
    · exact (hw.obj s1 b1 o1 h2).step hst (hk b1 (objs_lt hw h2) h3)
  · rcases hb' with rfl | hb'
    · have hx := hu.mem
      by_cases e0 : b' = 0
      · exact .inr e0
      · refine .inl fun e => ?_
        -- two owned things of one block
        have key : ∀ (l : Objs), List.Pairwise SiteRel l → (s, b', ob) ∈ l → y ∈ l → y.1 ≠ s → y.2.1 = b' → False := fun l => by
          induction l with
          | nil => intro _ h; simp at h
          | cons z l ih =>
            intro hp h1 h2 h3 h4
            obtain ⟨g1, g2⟩ := List.pairwise_cons.1 hp
            rcases List.mem_cons.1 h1 with rfl | h1'
            · rcases List.mem_cons.1 h2 with rfl | h2'
              · exact h3 rfl
              · rcases (g1 y h2').2 with h | h
                · exact h h4.symm
                · exact e0 h
            · rcases List.mem_cons.1 h2 with rfl | h2'
              · rcases (g1 _ h1').2 with h | h
                · exact h h4
                · exact e0 (h4 ▸ h)
              · exact ih g2 h1' h2' h3 h4
        exact key objs hw.sites hx hy hne e.symm
    · exact .inl (Nat.ne_of_gt (Nat.lt_of_lt_of_le (objs_lt (s := y.1) (ob := y.2.2) hw hy) hb'))

/-- Cells put into a list of cells. -/
inductive Splice : List TV → Nat → List TV → List TV → Prop
  | nil (l : List TV) : Splice l 0 [] l
  | put (x v : TV) (l vs l' : List TV) (h : Splice l 0 vs l') : Splice (x :: l) 0 (v :: vs) (v :: l')
  | skip (x : TV) (l : List TV) (n : Nat) (vs l' : List TV) (h : Splice l n vs l') : Splice (x :: l) (n + 1) vs (x :: l')
theorem Splice.spec {l : List TV} {n : Nat} {vs l' : List TV} (h : Splice l n vs l') : n + vs.length ≤ l.length ∧ l'.length = l.length ∧ ∀ j, l'[j]? = if n ≤ j ∧ j < n + vs.length then vs[j - n]? else l[j]? := by
  induction h with
  | nil l => exact ⟨by simp, rfl, fun j => by rw [if_neg (by simp)]⟩
  | put x v l vs l' h ih =>
    obtain ⟨h1, h2, h3⟩ := ih
    refine ⟨by simp at h1 ⊢; omega, by simp [h2], fun j => ?_⟩
    cases j with
    | zero => simp
    | succ j =>
      have := h3 j
      simp only [List.getElem?_cons_succ, this, List.length_cons, Nat.zero_le, true_and, Nat.sub_zero]
      by_cases hj : j < 0 + vs.length
      · rw [if_pos hj, if_pos (by omega)]
      · rw [if_neg hj, if_neg (by omega)]
  | skip x l n vs l' h ih =>
    obtain ⟨h1, h2, h3⟩ := ih
    refine ⟨by simp at h1 ⊢; omega, by simp [h2], fun j => ?_⟩
    cases j with
    | zero => rw [if_neg (by omega)]; simp
    | succ j =>
      have := h3 j
      simp only [List.getElem?_cons_succ, this]
      by_cases hj : n ≤ j ∧ j < n + vs.length
      · rw [if_pos hj, if_pos (by omega), show j + 1 - (n + 1) = j - n by omega]
      · rw [if_neg hj, if_neg (by omega)]

theorem exec_store {T : TypeId} {x v : Operand} {a : Act} {w : World} {g q : Nat} {cur : Array Value} {e : TypeId} (ho : o.op = .store T x v) (ha : a.eval x = .pointer (some ⟨g, q, none⟩)) (hi : (P.info? T).isSome = true) (hsz : P.cellsOf T = (a.eval v).cells.size)
    (hg : w.heap[g]? = some (.cells cur e (0, 0))) (hfit : q + (a.eval v).cells.size ≤ cur.size) (h1 : ∀ u ∈ (a.eval v).cells.toList, u.oneCell' = true) :
    (execOp a.eval o).run P w = .ok .skip (w.setRow g (cur.toList.take q ++ (a.eval v).cells.toList ++ cur.toList.drop (q + (a.eval v).cells.size)).toArray) := by
  cases hie : P.info? T with
  | none => rw [hie] at hi; cases hi
  | some i =>
  have hr := run_storeCells_at P g q e (a.eval v).cells.toList 0 cur w hg (by simpa using hfit) h1
  have hne : ¬ (a.eval v).cells.size ≠ P.cellsOf T := by omega
  simp only [execOp, ho, ha, Instr.storeAt, Instr.sureAddr, storeVar, Sem.run_bind, Sem.run_pure, Result.andThen_ok, run_sizeOf w hie, if_neg hne]
  rw [hr]
  simp [Result.andThen_ok, Sem.run_pure]

theorem setRow_below {w0 w : World} (h : Below w0.heap.size w0 w) {g : Nat} (hg : w0.heap.size ≤ g) (cs : Array Value) : Below w0.heap.size w0 (w.setRow g cs) :=
  h.trans ⟨rfl, rfl, rfl, by simp, fun k hk => setRow_other w g k cs (by omega)⟩
/-- A store into a variable that the call owns. -/
theorem ao_store_mp {ops : Array Oper} {rest : List Oper} {T : TypeId} {x v : Operand} {s b off : Nat} {tv : TV} {cells vs cells' : List TV} (ho : o.op = .store T x v) (hd : o.dst = none) (hx : ev env x = some (.mp s b off)) (hv : ev env v = some tv) (hc : tvCells tv = some vs)
    (hi : (P.info? T).isSome = true) (hsz : P.cellsOf T = vs.length) (hu : Upd (s, b, .box cells) (s, b, .box cells') objs objs') (hsp : Splice cells off vs cells') (h : AL P w0 N ops Q rest env objs') : AO P w0 N ops Q o rest env objs := ⟨fun a w K hs hK => by
    obtain ⟨⟨hB, hci⟩, cur, e, h2, h3, h4⟩ := hs.mem.obj s b _ hu.mem
    obtain ⟨g1, g2, g3⟩ := rep_cells (ev_sim hs hv) hc
    obtain ⟨p1, p2, p3⟩ := hsp.spec
    have hxa := ev_sim hs hx
    generalize hax : a.eval x = ax at hxa
    cases hxa with
    | mp s b off hb =>
    have hone : ∀ u ∈ (a.eval v).cells.toList, u.oneCell' = true := fun u hu => by
      obtain ⟨k, hk, rfl⟩ := List.getElem_of_mem hu
      have hk' : k < vs.length := by rw [← g1]; simpa using hk
      exact ((g2 k vs[k] _ (List.getElem?_eq_getElem hk') (by rw [← Array.getElem?_toList]; exact List.getElem?_eq_getElem hk)).one (g3 _ (List.getElem_mem hk'))).1
    have hrun := exec_store (P := P) (o := o) (cur := cur) (e := e) (w := w) ho hax hi (by rw [hsz, g1]) h2 (by rw [g1, h3]; exact p1) hone
    unfold Oper.wp
    rw [hrun]
    refine hK _ _ ?_
    rw [hd]
    have hb0 : b ≠ 0 := by have := hs.mem.pos; omega
    have hkk : ∀ k, k < w.heap.size → k ≠ b ∨ b = 0 → (w.setRow b (cur.toList.take off ++ (a.eval v).cells.toList ++ cur.toList.drop (off + (a.eval v).cells.size)).toArray).heap[k]? = w.heap[k]? := fun k _ hk => setRow_other w b k _ (hk.resolve_right hb0)
    have hst := step_upd (m := 0) hs.mem hu (w' := w.setRow b (cur.toList.take off ++ (a.eval v).cells.toList ++ cur.toList.drop (off + (a.eval v).cells.size)).toArray) (by simp) hkk (.inl rfl) (by simp) (by simp) (fun _ _ => by
      unfold World.shape?; rw [setRow_heap w b cur _ e _ h2, h2]; simp; omega) (by simp [marker])
    refine h.run _ _ (hs.same (hs.mem.upd hu (setRow_below hs.mem.below hB _) hkk (.inl rfl) hst ⟨⟨hB, fun t ht => ?_⟩, _, e, setRow_heap w b cur _ e _ h2, ?_, fun j t hj => ?_⟩) hst)
    · obtain ⟨k, hk, rfl⟩ := List.getElem_of_mem ht
      have h5 := p3 k
      rw [List.getElem?_eq_getElem hk] at h5
      split at h5
      · exact g3 _ (List.mem_of_getElem? h5.symm)
      · exact hci _ (List.mem_of_getElem? h5.symm)
    · simp; omega
    · rw [p3] at hj
      have hcur : ∀ i : Nat, cur.toList[i]? = cur[i]? := fun i => by simp
      simp only [List.getElem?_toArray]
      split at hj
      · rename_i hin
        have hlt : j - off < (a.eval v).cells.size := by omega
        refine ⟨(a.eval v).cells[j - off], ?_, (g2 _ t _ hj (by simp [hlt])).step hst⟩
        rw [List.getElem?_append_left (by simp; omega), List.getElem?_append_right (by simp; omega)]
        simp only [List.length_take, Array.length_toList]
        rw [show j - min off cur.size = j - off by omega]
        simp [hlt]
      · rename_i hin
        obtain ⟨u, h5, h6⟩ := h4 j t hj
        refine ⟨u, ?_, h6.step hst⟩
        have hjl : j < cur.size := (Array.getElem?_eq_some_iff.1 h5).1
        by_cases hjo : j < off
        · rw [List.getElem?_append_left (by simp; omega), List.getElem?_append_left (by simp; omega), List.getElem?_take, if_pos hjo, hcur]; exact h5
        · rw [List.getElem?_append_right (by simp; omega)]
          simp only [List.length_append, List.length_take, Array.length_toList, List.getElem?_drop]
          rw [show off + (a.eval v).cells.size + (j - (min off cur.size + (a.eval v).cells.size)) = j by omega, hcur]; exact h5⟩
end
end Go.Proofs.YtdeokcbbjibkoaaDoor
