/- Part 33 of the proof: the texts ShC, RsI, ShD, IvW, ShL, ShN, NiV, NiW. -/
import Derived.Test.YtiihihgjiklnoaaGreatDoorQb28
import Derived.Test.YtiihihgjiklnoaaGreatDoorQb10
import Derived.Test.YtiihihgjiklnoaaGreatDoorQb29
import Derived.Test.YtiihihgjiklnoaaGreatDoorQb20
import Derived.Test.YtiihihgjiklnoaaGreatDoorQb11
import Derived.Test.YtiihihgjiklnoaaGreatDoorQb14
import Derived.Test.YtiihihgjiklnoaaGreatDoorQb16
import Derived.Test.YtiihihgjiklnoaaGreatDoorQb23
/- slices.DeleteFunc on a row that the caller owns. -/
namespace Go.Proofs.YtiihihgjiklnoaaGreatDoor
set_option maxRecDepth 20000
set_option maxHeartbeats 2000000
open Go Go.RowKit
section
variable {G : World → Prop}
end
set_option maxRecDepth 20000
set_option maxHeartbeats 2000000
section
variable {G : World → Prop}
end
set_option maxRecDepth 20000
set_option maxHeartbeats 2000000
set_option maxRecDepth 20000
set_option maxHeartbeats 2000000
theorem nA {α : Type} {R : PT → α → Prop} {f : α → List TV} {l : List PT} {xs : List α} (h : AtL R l xs) (hf : ∀ t x, R t x → t.tvs = f x) : PT.rowsL l = xs.map f := by
  rw [PT.rowsL_map]
  apply List.ext_getElem?
  intro i
  simp only [List.getElem?_map]
  by_cases hi : i < l.length
  · have hj : i < xs.length := by rw [← h.1]; exact hi
    rw [List.getElem?_eq_getElem hi, List.getElem?_eq_getElem hj]
    simp only [Option.map_some]
    rw [hf _ _ (h.get hi)]
  · rw [List.getElem?_eq_none (by omega), List.getElem?_eq_none (by rw [← h.1]; omega)]; rfl
theorem j1 {t : PT} {x : aa} (h : cK t x) : t.tvs = x.tw 0 := by
  obtain ⟨A, c, rfl⟩ := h
  simp [PT.tvs, PT.tvsL, aa.tw, bE, PT.rowsL_map, Function.comp_def]
theorem zU {t : PT} {x : ay} (h : ju t x) : t.tvs = x.tw 0 := by
  obtain ⟨A, c, rfl⟩ := h
  simp [PT.tvs, PT.tvsL, ay.tw, ag.pt, ag.tw, PT.rowsL_map, Function.comp_def]
theorem q1 {t : PT} {x : aA} (h : dl t x) : t.tvs = x.tw 0 := by
  obtain ⟨A0, c0, l0, A1, c1, l1, A2, c2, h0, h1, rfl⟩ := h
  simp only [PT.tvs, PT.tvsL, aA.tw, nA h0 (fun _ _ => j1), nA h1 (fun _ _ => zU), PT.rowsL_map, List.map_map, List.append_nil, List.cons_append, List.nil_append]
  rfl
theorem gU {w : World} {S : Nat → Prop} {t : PT} {x : aa} (h : cK t x) (hs : dK w S t) (hx : x.sane) : aa.small 9223372036854775807 x := by
  obtain ⟨A, c, rfl⟩ := h
  simp only [dK, cm] at hs
  have h1 := hs.2.2.1.1
  have h2 := hs.2.2.1.2.1
  simp only [List.length_map] at h1
  exact ⟨hx.1, Nat.le_trans h1 h2, hx.2.2⟩
theorem wT {w : World} {S : Nat → Prop} {t : PT} {x : ay} (h : ju t x) (hs : dK w S t) (hx : x.sane) : ay.small 9223372036854775807 x := by
  obtain ⟨A, c, rfl⟩ := h
  simp only [dK, cm] at hs
  have h1 := hs.2.2.2.1.1
  have h2 := hs.2.2.2.1.2.1
  simp only [List.length_map] at h1
  exact ⟨Nat.le_trans h1 h2, fun y hy => (hx.2.2 y hy).2.2.2⟩
theorem rh {w : World} {S : Nat → Prop} : ∀ {l : List PT}, cm w S l → ∀ t ∈ l, dK w S t
  | _ :: _, h, t, ht => by
    simp only [cm] at h
    rcases List.mem_cons.1 ht with rfl | ht
    · exact h.1
    · exact rh h.2 t ht
theorem ic {α : Type} {R : PT → α → Prop} {w : World} {S : Nat → Prop} {l : List PT} {xs : List α} (h : AtL R l xs) (hs : cm w S l) {p q : α → Prop} (hp : ∀ t x, R t x → dK w S t → p x → q x) (ha : ∀ x ∈ xs, p x) : ∀ x ∈ xs, q x := fun x hx => by
  obtain ⟨i, hi, rfl⟩ := List.getElem_of_mem hx
  have hj : i < l.length := by rw [h.1]; exact hi
  exact hp l[i] _ (h.get hj) (rh hs _ (List.getElem_mem hj)) (ha _ hx)
theorem nG {w : World} {S : Nat → Prop} {t : PT} {x : aA} (h : dl t x) (hs : dK w S t) (hx : x.sane) : aA.small 9223372036854775807 x := by
  obtain ⟨A0, c0, l0, A1, c1, l1, A2, c2, h0, h1, rfl⟩ := h
  simp only [dK, cm] at hs
  obtain ⟨⟨a1, a2, _, _, a5⟩, ⟨b1, b2, _, _, b5⟩, ⟨d1, d2, _, _, _⟩, _⟩ := hs
  simp only [List.length_map] at d1
  exact ⟨⟨by rw [← h0.1]; exact Nat.le_trans a1 a2, ic h0 a5 (fun _ _ => gU) hx.1⟩, ⟨by rw [← h1.1]; exact Nat.le_trans b1 b2, ic h1 b5 (fun _ _ => wT) hx.2.1⟩, ⟨Nat.le_trans d1 d2, fun y hy => (hx.2.2.1 y hy).2.1⟩⟩
instance : Enc CbP := inferInstanceAs (Enc (((Nat × Nat) × List (Nat × Nat)) × ((Nat × Nat) × List (Nat × Nat)) × (Nat × Nat)))
theorem oY {α β : Type} {objs : aI} {f : α → List TV} {mk : α → β → List TV} {ob : α → β → aI} (h : ∀ x p, (∀ o ∈ ob x p, o ∈ objs) → dJ objs (mk x p) (f x)) : ∀ (l : List α) (ps : List β), ps.length = l.length → (∀ o ∈ nOg ob l ps, o ∈ objs) → dJ objs (nRg mk l ps).flatten (l.map f).flatten ∧ (l.map f).map List.length = (nRg mk l ps).map List.length
  | [], ps, hl, _ => by simp [nRg, dJ]
  | x :: l, [], hl, _ => by simp at hl
  | x :: l, p :: ps, hl, hm => by
    have h1 := h x p (fun o ho => hm o (by simp only [nOg, List.zipWith_cons_cons, List.flatten_cons, List.mem_append]; exact .inl ho))
    obtain ⟨h2, h3⟩ := oY h l ps (by simpa using hl) (fun o ho => hm o (by simp only [nOg, List.zipWith_cons_cons, List.flatten_cons, List.mem_append]; exact .inr ho))
    exact ⟨h1.append h2, by
      show (f x).length :: (l.map f).map List.length = (mk x p).length :: (nRg mk l ps).map List.length
      rw [h3, h1.1]⟩
theorem sy {α β : Type} {objs : aI} {f : α → List TV} {mk : α → β → List TV} {ob : α → β → aI} {m s b : Nat} (h : ∀ x p, (∀ o ∈ ob x p, o ∈ objs) → dJ objs (mk x p) (f x)) {l : List α} {ps : List β} (hl : ps.length = l.length) (hm : (s, b, bu.row m (nRg mk l ps)) ∈ objs) (hp : ∀ o ∈ nOg ob l ps, o ∈ objs) : ci objs (.ms s b 0 l.length) (.sl 0 m (l.map f)) := by
  obtain ⟨h1, h2⟩ := oY h l ps hl hp
  have h3 := tW mk hl
  exact .ms s b 0 l.length m _ _ _ hm (by omega) rfl (by rw [List.drop_zero, List.take_of_length_le (by omega)]; exact h2) (by rw [List.drop_zero, List.take_of_length_le (by omega)]; exact h1.2)
theorem lG (l : List Int) : (aO l).length = l.length := by simp [aO]
theorem zm {objs : aI} (x : au) (p : Pl × Pl) (h : ∀ o ∈ jG x p, o ∈ objs) : dJ objs (gN x p) (x.tw 0) :=
  .cons (.same _) (.cons (.same _) (.cons (.msAll (h _ List.mem_cons_self) (by simp)) (.cons (.msAll (h _ (List.mem_cons_of_mem _ List.mem_cons_self)) (lG _)) .nil)))
theorem zQ {objs : aI} (x : am) (p : Pl × Pl × Pl) (h : ∀ o ∈ jH x p, o ∈ objs) : dJ objs (gO x p) (x.tw 0) :=
  .cons (.same _) (.cons (.same _) (.cons (.same _) (.cons (.same _) (.cons (.same _) (.cons (.same _) (.cons (.same _) (.cons (.same _) (.cons (.same _) (.cons (.msAll (h _ List.mem_cons_self) (by simp)) (.cons (.msAll (h _ (List.mem_cons_of_mem _ List.mem_cons_self)) (by simp)) (.cons (.msAll (h _ (List.mem_cons_of_mem _ (List.mem_cons_of_mem _ List.mem_cons_self))) (by simp)) (.cons (.same _) (.cons (.same _) .nil)))))))))))))
theorem aaz {objs : aI} {x : aA} {y : CbP} (hy : cbI x y) (hm : ∀ o ∈ cbO x y, o ∈ objs) : dJ objs (cbC x y) (x.tw 0) := by
  have h1 : ∀ o ∈ aaS x.classes y.1, o ∈ objs := fun o h => hm o (List.mem_append_left _ h)
  have h2 : ∀ o ∈ acT x.codes y.2.1, o ∈ objs := fun o h => hm o (List.mem_append_right _ (List.mem_append_left _ h))
  have h3 : ∀ o ∈ acU x.entries y.2.2, o ∈ objs := fun o h => hm o (List.mem_append_right _ (List.mem_append_right _ h))
  exact (dJ.cons (qo vt hy.1 (h1 _ List.mem_cons_self) (fun o h => h1 o (List.mem_cons_of_mem _ h))) (dJ.cons (qo aae hy.2 (h2 _ List.mem_cons_self) (fun o h => h2 o (List.mem_cons_of_mem _ h))) (dJ.cons (ci.msAll (len := x.entries.length) (h3 _ List.mem_cons_self) (by simp)) (dJ.cons (ci.same (.int .i64 x.main)) dJ.nil))))
theorem zH {objs : aI} {x : aM} {y : StP} (hy : stI x y) (hm : ∀ o ∈ stO x y, o ∈ objs) : dJ objs (stC x y) (x.tw 0) := by
  have h1 : ∀ o ∈ aaS x.classes y.1, o ∈ objs := fun o h => hm o (List.mem_append_left _ h)
  have h2 : ∀ o ∈ acf x.objects y.2.1, o ∈ objs := fun o h => hm o (List.mem_append_right _ (List.mem_append_left _ h))
  have h3 : ∀ o ∈ [(y.2.2.1, y.2.2.2, bu.row 1 (bE x.output))], o ∈ objs := fun o h => hm o (List.mem_append_right _ (List.mem_append_right _ h))
  exact (dJ.cons (qo vt hy.1 (h1 _ List.mem_cons_self) (fun o h => h1 o (List.mem_cons_of_mem _ h))) (dJ.cons (sy zm hy.2 (h2 _ List.mem_cons_self) (fun o h => h2 o (List.mem_cons_of_mem _ h))) (dJ.cons (ci.msAll (len := x.output.length) (h3 _ List.mem_cons_self) (bf _)) (.cons (.same _) (.cons (.same _) (.cons (.same _) .nil))))))
theorem yf {objs : aI} {x : ak} {y : rI} (hy : imI x y) (hm : ∀ o ∈ imO x y, o ∈ objs) : ci objs (.agg (imC x y)) (.agg (x.tw 0)) := by
  unfold imO at hm
  have h1 : ∀ o ∈ cbO x.base y.1, o ∈ objs := fun o h => hm o (List.mem_append_left _ h)
  replace hm := fun o h => hm o (List.mem_append_right _ h)
  have h2 : ∀ o ∈ stO x.store y.2.1, o ∈ objs := fun o h => hm o (List.mem_append_left _ h)
  replace hm := fun o h => hm o (List.mem_append_right _ h)
  have h3 := hm _ (List.mem_append_left _ List.mem_cons_self)
  replace hm := fun o h => hm o (List.mem_append_right _ h)
  have h4 : ∀ o ∈ abb x.contexts y.2.2.2.1, o ∈ objs := fun o h => hm o (List.mem_append_left _ h)
  replace hm := fun o h => hm o (List.mem_append_right _ h)
  have h5 := hm _ (List.mem_append_left _ List.mem_cons_self)
  have h6 := hm _ (List.mem_append_right _ List.mem_cons_self)
  have h := ((aaz hy.1 h1).append ((zH hy.2.1 h2).append (.cons (.msAll (len := x.blocks.length) h3 (by simp)) (.cons (sy zQ hy.2.2 (h4 _ List.mem_cons_self) (fun o h => h4 o (List.mem_cons_of_mem _ h))) (.cons (.msAll (len := x.processes.length) h5 (by simp)) (.cons (.msAll (len := x.ready.length) h6 (lG _))
    (.cons (.same (.int .i64 x.now)) (.cons (.same (.int .i64 x.status)) (.cons (.same (.int .i64 x.value.kind)) (.cons (.same (.int .i64 x.value.number)) (.cons (.same (.str x.value.text)) (.cons (.same (.str x.fault)) .nil))))))))))))
  exact ci.agg (imC x y) (x.tw 0) h.1 h.2
theorem zS {α : Type} {f : α → List TV} (h : ∀ x, ∀ t ∈ f x, t.flat = true) (l : List α) : ∀ t ∈ (l.map f).flatten, t.flat = true := fun t ht => by
  obtain ⟨r, hr, htr⟩ := List.mem_flatten.1 ht
  obtain ⟨i, _, rfl⟩ := List.mem_map.1 hr
  exact h i t htr
theorem abz (l : List Int) (objs : aI) : fS objs (.row 1 (aO l)) := lP (zS (fun x t ht => by
  simp only [List.mem_cons, List.not_mem_nil, or_false] at ht
  rcases ht with rfl; rfl) l)
instance {A B : Type} [Enc (List A)] [Enc (List B)] : Enc (List (A × B)) := ⟨fun y => Enc.enc (y.map Prod.fst, y.map Prod.snd), fun y => match (Enc.dec y : List A × List B) with | (a, b) => a.zip b, fun y => by
  rw [Enc.eq]
  induction y with
  | nil => rfl
  | cons z y ih => simpa using ih⟩
instance : Enc StP := inferInstanceAs (Enc (((Nat × Nat) × List (Nat × Nat)) × ((Nat × Nat) × List ((Nat × Nat) × (Nat × Nat))) × (Nat × Nat)))
instance : Enc rI := inferInstanceAs (Enc (CbP × StP × (Nat × Nat) × ((Nat × Nat) × List ((Nat × Nat) × (Nat × Nat) × (Nat × Nat))) × (Nat × Nat) × (Nat × Nat)))
end Go.Proofs.YtiihihgjiklnoaaGreatDoor
