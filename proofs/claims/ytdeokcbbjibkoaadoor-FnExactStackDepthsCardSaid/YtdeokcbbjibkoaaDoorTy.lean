/- From the data that a row reads to values with addresses: every argument whose type is made of ints, bools, strings, structs and slices opens to a tree that can be read. -/
import Derived.Test.YtdeokcbbjibkoaaDoorBase
import Derived.ProofKit
import Derived.Deep.Slices
namespace Go.Proofs.YtdeokcbbjibkoaaDoor
open Go Go.RowKit

inductive Ty where
  | int (k : IntKind)
  | bool
  | str
  | agg (l : List Ty)
  | sl (m : Nat) (e : Ty)

mutual
def Ty.size : Ty → Nat
  | .agg l => Ty.sizeL l
  | _ => 1
def Ty.sizeL : List Ty → Nat
  | [] => 0
  | t :: r => Ty.size t + Ty.sizeL r
end

mutual
def HasTy : Ty → PT → Prop
  | .int k, t => ∃ n, t = .int k n
  | .bool, t => ∃ b, t = .bool b
  | .str, t => ∃ s, t = .str s
  | .agg l, t => ∃ ts, t = .agg ts ∧ HasTys l ts
  | .sl m e, t => ∃ A c l, t = .sl A c m l ∧ ∀ u ∈ l, HasTy e u
def HasTys : List Ty → List PT → Prop
  | [], ts => ts = []
  | t :: r, ts => ∃ u us, ts = u :: us ∧ HasTy t u ∧ HasTys r us
end

mutual
/-- Numbers fit their kinds, strings have a size that a machine bears. -/
def PT.sane : PT → Prop
  | .int k n => (Lit.int k n).wf = true
  | .str s => s.size ≤ maxLen
  | .bool _ => True
  | .agg l => saneL l
  | .sl _ _ _ l => saneL l
def PT.saneL : List PT → Prop
  | [] => True
  | t :: r => PT.sane t ∧ PT.saneL r
end
theorem PT.saneL_of {l : List PT} (h : ∀ t ∈ l, t.sane) : PT.saneL l := by
  induction l with
  | nil => trivial
  | cons x r ih => exact ⟨h x (by simp), ih fun t ht => h t (by simp [ht])⟩
theorem PT.saneL_mem {l : List PT} (h : PT.saneL l) {t : PT} (ht : t ∈ l) : t.sane := by
  induction l with
  | nil => cases ht
  | cons x r ih =>
    rcases List.mem_cons.1 ht with rfl | ht
    · exact h.1
    · exact ih h.2 ht

mutual
/-- The type T of the program is made as the description says. -/
def tyB (P : Program) : Ty → TypeId → Bool
  | .int k, T => match P.underlying T with | some (.int k') => k == k' | _ => false
  | .bool, T => match P.underlying T with | some .bool => true | _ => false
  | .str, T => match P.underlying T with | some .string => true | _ => false
  | .agg l, T => match P.underlying T with | some (.struct fs) => tysB P l fs.toList 0 && (P.cellsOf T == Ty.sizeL l) | _ => false
  | .sl m e, T => match P.underlying T with | some (.slice E) => tyB P e E && (P.cellsOf E == m) && (Ty.size e == m) && decide (0 < m) | _ => false
def tysB (P : Program) : List Ty → List Field → Nat → Bool
  | [], [], _ => true
  | t :: r, f :: fs, off => (f.offset == off) && tyB P t f.type && (P.cellsOf f.type == Ty.size t) && tysB P r fs (off + Ty.size t)
  | _, _, _ => false
end

mutual
theorem hasTy_size : ∀ (τ : Ty) (t : PT), HasTy τ t → t.cells.length = τ.size
  | .int k, t, h => by simp only [HasTy] at h; obtain ⟨n, rfl⟩ := h; rfl
  | .bool, t, h => by simp only [HasTy] at h; obtain ⟨n, rfl⟩ := h; rfl
  | .str, t, h => by simp only [HasTy] at h; obtain ⟨n, rfl⟩ := h; rfl
  | .agg l, t, h => by
    simp only [HasTy] at h
    obtain ⟨ts, rfl, h⟩ := h
    simp only [PT.cells, Ty.size]
    exact hasTys_size l ts h
  | .sl m e, t, h => by simp only [HasTy] at h; obtain ⟨A, c, l, rfl, _⟩ := h; rfl
theorem hasTys_size : ∀ (l : List Ty) (ts : List PT), HasTys l ts → (PT.cellsL ts).length = Ty.sizeL l
  | [], ts, h => by simp only [HasTys] at h; subst h; rfl
  | τ :: r, ts, h => by
    simp only [HasTys] at h
    obtain ⟨u, us, rfl, h1, h2⟩ := h
    simp only [PT.cellsL, List.length_append, Ty.sizeL]
    rw [hasTy_size τ u h1, hasTys_size r us h2]
end

section
variable {H : Type} {enc : TypeId × Value → H} {P : Program} {w : World} {base : Nat} {spare : Nat → Bool} {held : Bool}

theorem plain_addr {a : Addr} {v : Value} (h : w.cell? a = some v) : ∃ b o, a = ⟨b, o, none⟩ := by
  obtain ⟨b, o, s⟩ := a
  cases s with
  | none => exact ⟨b, o, rfl⟩
  | some s => simp [World.cell?] at h; split at h <;> simp at h

mutual
theorem open_pt : ∀ (τ : Ty) (T : TypeId) (fuel : Nat) (cs : List Value) (x : DataW H × List MemPlace), tyB P τ T = true → DataW.trod enc P w base spare held fuel T cs = some x →
    ∃ t : PT, HasTy τ t ∧ t.cells = cs ∧ Seen w (· < w.heap.size) t ∧ t.sane
  | .int k, T, fuel, cs, x, ht, h => by
    simp only [tyB] at ht
    split at ht
    · rename_i k' hu
      obtain ⟨n, rfl, _, hwf⟩ := DataW.trod_int hu h
      have : k = k' := by simpa using ht
      subst this
      exact ⟨.int k n, by simp [HasTy], rfl, trivial, hwf⟩
    · cases ht
  | .bool, T, fuel, cs, x, ht, h => by
    simp only [tyB] at ht
    split at ht
    · rename_i hu
      obtain ⟨b, rfl, _⟩ := DataW.trod_bool hu h
      exact ⟨.bool b, by simp [HasTy], rfl, trivial, trivial⟩
    · cases ht
  | .str, T, fuel, cs, x, ht, h => by
    simp only [tyB] at ht
    split at ht
    · rename_i hu
      obtain ⟨s, rfl, _, hs⟩ := DataW.trod_string hu h
      exact ⟨.str s, by simp [HasTy], rfl, trivial, hs⟩
    · cases ht
  | .agg l, T, fuel, cs, x, ht, h => by
    simp only [tyB] at ht
    split at ht
    · rename_i fs hu
      simp only [Bool.and_eq_true, beq_iff_eq] at ht
      obtain ⟨xs, n, _, _, hcl, hxl, hf⟩ := DataW.trod_struct hu h
      obtain ⟨ts, h1, h2, h3, h4⟩ := opens_pt l fs.toList 0 n cs ht.1 (by rw [hcl, ht.2]; simp) (fun i f hfi => by
        have h5 := hf i f (by simpa using hfi)
        have hi : i < xs.length := by rw [hxl]; have := (List.getElem?_eq_some_iff.1 hfi).1; simpa using this
        rw [List.getElem?_eq_getElem hi] at h5
        exact ⟨_, h5⟩)
      exact ⟨.agg ts, by simp only [HasTy]; exact ⟨ts, rfl, h1⟩, by simpa [PT.cells] using h2, h3, h4⟩
    · cases ht
  | .sl m e, T, fuel, cs, x, ht, h => by
    simp only [tyB] at ht
    split at ht
    · rename_i E hu
      simp only [Bool.and_eq_true, beq_iff_eq, decide_eq_true_eq] at ht
      obtain ⟨⟨⟨hE, hm⟩, hsz⟩, hm0⟩ := ht
      rcases Go.Deep.open_slice hu h with ⟨rfl, _⟩ | ⟨a, len, cap, mm, n, D, Pl, rfl, _, hl, hc, hmm, _, hel⟩
      · exact ⟨.sl none 0 m [], by simp only [HasTy]; exact ⟨_, _, _, rfl, by simp⟩, rfl, ⟨by simp, by simp, Sees.nil _ _ _, by simp, trivial⟩, trivial⟩
      · rw [hm] at hel
        have hge : len ≤ mm := by rw [hmm]; split <;> omega
        -- the elements, one behind the other
        have build : ∀ k, k ≤ len → ∃ l : List PT, l.length = k ∧ (∀ u ∈ l, HasTy e u) ∧ SeenL w (· < w.heap.size) l ∧ PT.saneL l ∧ ∀ j v, (PT.cellsL l)[j]? = some v → w.cell? (a.add j) = some v := by
          intro k
          induction k with
          | zero => intro _; exact ⟨[], rfl, by simp, trivial, trivial, by simp [PT.cellsL]⟩
          | succ k ih =>
            intro hk
            obtain ⟨l, hll, h1, h2, h3, h4⟩ := ih (by omega)
            obtain ⟨cs', hc', ht'⟩ := hel k (by omega)
            obtain ⟨t, ht1, ht2, ht3, ht4⟩ := open_pt e E n cs' _ hE ht'
            obtain ⟨_, hcl', hat⟩ := World.cells?_some hc'
            have hll2 : (PT.cellsL l).length = k * m := by
              rw [PT.length_cellsL (m := m) (fun u hu => by rw [hasTy_size e u (h1 u hu), hsz]), hll]
            refine ⟨l ++ [t], by simp [hll], fun u hu => ?_, SeenL.of_get fun u hu => ?_, PT.saneL_of fun u hu => ?_, fun j v hj => ?_⟩
            · rcases List.mem_append.1 hu with hu | hu
              · exact h1 u hu
              · rw [List.mem_singleton.1 hu]; exact ht1
            · rcases List.mem_append.1 hu with hu | hu
              · obtain ⟨i, hi, rfl⟩ := List.getElem_of_mem hu
                exact SeenL.get h2 (List.getElem?_eq_getElem hi)
              · rw [List.mem_singleton.1 hu]; exact ht3
            · rcases List.mem_append.1 hu with hu | hu
              · exact PT.saneL_mem h3 hu
              · rw [List.mem_singleton.1 hu]; exact ht4
            · rw [PT.cellsL_append] at hj
              simp only [PT.cellsL, List.append_nil] at hj
              rw [ht2] at hj
              by_cases hjl : j < (PT.cellsL l).length
              · rw [List.getElem?_append_left hjl] at hj
                exact h4 j v hj
              · rw [List.getElem?_append_right (by omega)] at hj
                have hj2 := (List.getElem?_eq_some_iff.1 hj).1
                have h5 := hat (j - (PT.cellsL l).length) (by rw [← hcl']; exact hj2)
                rw [hj] at h5
                rw [← h5, Addr.add_add, show k * m + (j - (PT.cellsL l).length) = j by omega]
        obtain ⟨l, hll, h1, h2, h3, h4⟩ := build len (Nat.le_refl _)
        subst hll
        refine ⟨.sl (some a) cap m l, by simp only [HasTy]; exact ⟨_, _, _, rfl, h1⟩, rfl, ⟨hl, hc, fun j v hj => ?_, fun u hu => by rw [hasTy_size e u (h1 u hu), hsz], h2⟩, h3⟩
        have h0 : 0 < (PT.cellsL l).length := by have := (List.getElem?_eq_some_iff.1 hj).1; omega
        have hz := h4 0 _ (List.getElem?_eq_getElem h0)
        rw [Addr.add_zero'] at hz
        obtain ⟨b, o, rfl⟩ := plain_addr hz
        have hv := h4 j v hj
        rw [Addr.add_lit] at hv
        exact ⟨b, o, rfl, World.block_lt_of_cell? w _ hz, hv⟩
    · cases ht
theorem opens_pt : ∀ (l : List Ty) (fs : List Field) (off fuel : Nat) (cs : List Value), tysB P l fs off = true → cs.length = off + Ty.sizeL l →
    (∀ (i : Nat) (f : Field), fs[i]? = some f → ∃ y, DataW.trod enc P w base spare held fuel f.type ((cs.drop f.offset).take (P.cellsOf f.type)) = some y) →
    ∃ ts : List PT, HasTys l ts ∧ PT.cellsL ts = cs.drop off ∧ SeenL w (· < w.heap.size) ts ∧ PT.saneL ts
  | [], fs, off, fuel, cs, h, hl, _ => by
    refine ⟨[], by simp [HasTys], ?_, trivial, trivial⟩
    rw [List.drop_eq_nil_of_le (by rw [hl]; simp [Ty.sizeL])]; rfl
  | τ :: r, [], off, fuel, cs, h, hl, _ => by simp [tysB] at h
  | τ :: r, f :: fs, off, fuel, cs, h, hl, hf => by
    simp only [tysB, Bool.and_eq_true, beq_iff_eq] at h
    obtain ⟨⟨⟨h1, h2⟩, h3⟩, h4⟩ := h
    obtain ⟨y, hy⟩ := hf 0 f rfl
    rw [h1, h3] at hy
    obtain ⟨t, ht1, ht2, ht3, ht4⟩ := open_pt τ f.type fuel _ y h2 hy
    obtain ⟨ts, hs1, hs2, hs3, hs4⟩ := opens_pt r fs (off + τ.size) fuel cs h4 (by rw [hl]; simp only [Ty.sizeL]; omega) (fun i g hg => hf (i + 1) g (by simpa using hg))
    refine ⟨t :: ts, by simp only [HasTys]; exact ⟨t, ts, rfl, ht1, hs1⟩, ?_, ⟨ht3, hs3⟩, ⟨ht4, hs4⟩⟩
    simp only [PT.cellsL]
    rw [ht2, hs2, ← List.drop_drop]
    exact List.take_append_drop _ _
end
end

end Go.Proofs.YtdeokcbbjibkoaaDoor
