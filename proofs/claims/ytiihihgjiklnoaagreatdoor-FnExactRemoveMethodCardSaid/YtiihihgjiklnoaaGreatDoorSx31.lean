/- Part 31 of the proof. -/
import Derived.Test.YtiihihgjiklnoaaGreatDoorSx25
import Derived.Test.YtiihihgjiklnoaaGreatDoorSx14
import Derived.Test.YtiihihgjiklnoaaGreatDoorSx26
import Derived.Test.YtiihihgjiklnoaaGreatDoorSx3
import Derived.Test.YtiihihgjiklnoaaGreatDoorSx27
import Derived.Test.YtiihihgjiklnoaaGreatDoorSx17
import Derived.Test.YtiihihgjiklnoaaGreatDoorSx24
set_option maxHeartbeats 4000000
set_option maxRecDepth 20000
namespace Go.Proofs.YtiihihgjiklnoaaGreatDoor
open Go Go.RowKit
theorem dP {objs objs' : aI} (h : ∀ o ∈ objs, o ∈ objs') {t : TV} (k : dS objs t) : dS objs' t := by
 induction k with
 | flat t h => exact .flat t h
 | nils => exact .nils
 | ms s b off len m rows hm => exact .ms s b off len m rows (h _ hm)
 | agg l _ ih => exact .agg l ih
 | tup l _ ih => exact .tup l ih
theorem em {objs objs' : aI} (h : ∀ o ∈ objs, o ∈ objs') {o : ba} (k : cB objs o) : cB objs' o := by
 cases o with
 | row m rows => exact fun t ht => dP h (k t ht)
 | box cells => exact fun t ht => dP h (k t ht)
 | _ => exact k
theorem xW (x : az) (p : Nat × Nat) (objs : aI) (h : (p.1, p.2, fx x) ∈ objs) : ∀ t ∈ ey x p, dS objs t := fun t ht => by
 simp only [ey, List.mem_cons, List.not_mem_nil, or_false] at ht
 rcases ht with rfl | rfl | rfl | rfl
 ·exact .flat _ rfl
 ·exact .flat _ rfl
 ·exact .flat _ rfl
 ·exact .ms _ _ _ _ _ _ h
theorem abr (x : az) (objs : aI) : cB objs (fx x) := fo fun t ht => by
 obtain ⟨r, hr, htr⟩ := List.mem_flatten.1 ht
 obtain ⟨i, _, rfl⟩ := List.mem_map.1 hr
 simp only [ah.tw, List.mem_cons, List.not_mem_nil, or_false] at htr
 rcases htr with rfl | rfl | rfl | rfl <;> rfl
theorem aam (l : List ar) (objs : aI) : cB objs (.row 4 (l.map (ar.tw 0))) := fo fun t ht => by
 obtain ⟨r, hr, htr⟩ := List.mem_flatten.1 ht
 obtain ⟨i, _, rfl⟩ := List.mem_map.1 hr
 simp only [ar.tw, List.mem_cons, List.not_mem_nil, or_false] at htr
 rcases htr with rfl | rfl | rfl | rfl <;> rfl
theorem adj (x : aB) (y : CbP) : (∀ s b o, (s, b, o) ∈ cbO x y -> cB (cbO x y) o) /\ dS (cbO x y) (.agg (cbC x y)) := by
 have h1 := iC (m := 3) (s := y.1.1.1) (b := y.1.1.2) (n := x.classes.length) hY gX x.classes y.1.2
 have h2 := iC (m := 4) (s := y.2.1.1.1) (b := y.2.1.1.2) (n := x.codes.length) xW abr x.codes y.2.1.2
 have m1 : ∀ o ∈ qe x.classes y.1, o ∈ cbO x y := fun o h => List.mem_append_left _ h
 have m2 : ∀ o ∈ aer x.codes y.2.1, o ∈ cbO x y := fun o h => List.mem_append_right _ (List.mem_append_left _ h)
 have m3 : ∀ o ∈ adG x.entries y.2.2, o ∈ cbO x y := fun o h => List.mem_append_right _ (List.mem_append_right _ h)
 refine ⟨fun s b o h => ?_, .agg _ fun t ht => ?_⟩
 ·rcases List.mem_append.1 h with h | h
  ·exact em m1 (h1.1 s b o h)
  ·rcases List.mem_append.1 h with h | h
   ·exact em m2 (h2.1 s b o h)
   ·simp only [adG, List.mem_singleton, Prod.mk.injEq] at h
    obtain ⟨_, _, rfl⟩ := h
    exact aam _ _
 ·simp only [cbC, List.mem_cons, List.not_mem_nil, or_false] at ht
  rcases ht with rfl | rfl | rfl | rfl
  ·exact dP m1 h1.2
  ·exact dP m2 h2.2
  ·exact .ms _ _ _ _ _ _ (m3 _ List.mem_cons_self)
  ·exact .flat _ rfl
instance : Enc CbP := inferInstanceAs (Enc (((Nat × Nat) × List (Nat × Nat)) × ((Nat × Nat) × List (Nat × Nat)) × (Nat × Nat)))
theorem sS (a b c : Nat × Nat × ba) (A B C : aI) : cC (a :: b :: c :: (A ++ (B ++ C))) (a :: (A ++ (b :: (B ++ (c :: C))))) := .perm (by
 have h1 : (A ++ (b :: (B ++ (c :: C)))).Perm (b :: (A ++ (B ++ (c :: C)))) := List.perm_middle
 have h2 : (A ++ (B ++ (c :: C))).Perm (c :: (A ++ (B ++ C))) := by
   have : ((A ++ B) ++ (c :: C)).Perm (c :: ((A ++ B) ++ C)) := List.perm_middle
   simpa using this
 exact ((h1.trans (h2.cons b)).cons a).symm)
theorem xx (a b c : Nat × Nat × ba) (A B C : aI) : (B ++ (a :: b :: c :: (A ++ C))).Perm (a :: b :: c :: (A ++ (B ++ C))) := by
 have h := List.perm_append_comm_assoc B ([a, b, c] ++ A) C
 simpa using h
theorem xy (a b c : Nat × Nat × ba) (A C : aI) : (A ++ (a :: b :: c :: C)).Perm (a :: b :: c :: (A ++ C)) := by
 have h := List.perm_append_comm_assoc A [a, b, c] C
 simpa using h
theorem uz (a b c d : Nat × Nat × ba) (Y Z : aI) : cC (a :: b :: c :: d :: (Y ++ Z)) (a :: (Y ++ (b :: c :: d :: Z))) := .perm (by
 have h := List.perm_append_comm_assoc Y [b, c, d] Z
 exact (h.symm.cons a))
theorem ql {α β : Type} {objs : aI} {f : α -> List TV} {mk : α -> β -> List TV} {ob : α -> β -> aI} (h : ∀ x p, (∀ o ∈ ob x p, o ∈ objs) -> eb objs (mk x p) (f x)) : ∀ (l : List α) (ps : List β), ps.length = l.length -> (∀ o ∈ nOg ob l ps, o ∈ objs) -> eb objs (nRg mk l ps).flatten (l.map f).flatten /\ (l.map f).map List.length = (nRg mk l ps).map List.length
 | [], ps, hl, _ => by simp [nRg, eb]
 | x :: l, [], hl, _ => by simp at hl
 | x :: l, p :: ps, hl, hm => by
   have h1 := h x p (fun o ho => hm o (by simp only [nOg, List.zipWith_cons_cons, List.flatten_cons, List.mem_append]; exact .inl ho))
   obtain ⟨h2, h3⟩ := ql h l ps (by simpa using hl) (fun o ho => hm o (by simp only [nOg, List.zipWith_cons_cons, List.flatten_cons, List.mem_append]; exact .inr ho))
   exact ⟨h1.append h2, by
     show (f x).length :: (l.map f).map List.length = (mk x p).length :: (nRg mk l ps).map List.length
     rw [h3, h1.1]⟩
theorem t8 {α β : Type} {objs : aI} {f : α -> List TV} {mk : α -> β -> List TV} {ob : α -> β -> aI} {m s b : Nat} (h : ∀ x p, (∀ o ∈ ob x p, o ∈ objs) -> eb objs (mk x p) (f x)) {l : List α} {ps : List β} (hl : ps.length = l.length) (hm : (s, b, ba.row m (nRg mk l ps)) ∈ objs) (hp : ∀ o ∈ nOg ob l ps, o ∈ objs) : bR objs (.ms s b 0 l.length) (.sl 0 m (l.map f)) := by
 obtain ⟨h1, h2⟩ := ql h l ps hl hp
 have h3 := gF mk hl
 exact .ms s b 0 l.length m _ _ _ hm (by omega) rfl (by rw [List.drop_zero, List.take_of_length_le (by omega)]; exact h2) (by rw [List.drop_zero, List.take_of_length_le (by omega)]; exact h1.2)
theorem w8 (l : List Int) : (aS l).length = l.length := by simp [aS]
theorem abY {objs : aI} (x : av) (p : Pl × Pl) (h : ∀ o ∈ dh x p, o ∈ objs) : eb objs (bQ x p) (x.tw 0) :=
 .cons (.same _) (.cons (.same _) (.cons (.msAll (h _ List.mem_cons_self) (by simp)) (.cons (.msAll (h _ (List.mem_cons_of_mem _ List.mem_cons_self)) (w8 _)) .nil)))
theorem ack {objs : aI} (x : ao) (p : Pl × Pl × Pl) (h : ∀ o ∈ d9 x p, o ∈ objs) : eb objs (ek x p) (x.tw 0) :=
 .cons (.same _) (.cons (.same _) (.cons (.same _) (.cons (.same _) (.cons (.same _) (.cons (.same _) (.cons (.same _) (.cons (.same _) (.cons (.same _) (.cons (.msAll (h _ List.mem_cons_self) (by simp)) (.cons (.msAll (h _ (List.mem_cons_of_mem _ List.mem_cons_self)) (by simp)) (.cons (.msAll (h _ (List.mem_cons_of_mem _ (List.mem_cons_of_mem _ List.mem_cons_self))) (by simp)) (.cons (.same _) (.cons (.same _) .nil)))))))))))))
theorem acw {objs : aI} {x : aB} {y : CbP} (hy : cbI x y) (hm : ∀ o ∈ cbO x y, o ∈ objs) : eb objs (cbC x y) (x.tw 0) := by
 have h1 : ∀ o ∈ qe x.classes y.1, o ∈ objs := fun o h => hm o (List.mem_append_left _ h)
 have h2 : ∀ o ∈ aer x.codes y.2.1, o ∈ objs := fun o h => hm o (List.mem_append_right _ (List.mem_append_left _ h))
 have h3 : ∀ o ∈ adG x.entries y.2.2, o ∈ objs := fun o h => hm o (List.mem_append_right _ (List.mem_append_right _ h))
 exact (eb.cons (qP wZ hy.1 (h1 _ List.mem_cons_self) (fun o h => h1 o (List.mem_cons_of_mem _ h))) (eb.cons (qP acG hy.2 (h2 _ List.mem_cons_self) (fun o h => h2 o (List.mem_cons_of_mem _ h))) (eb.cons (bR.msAll (len := x.entries.length) (h3 _ List.mem_cons_self) (by simp)) (eb.cons (bR.same (.int .i64 x.main)) eb.nil))))
theorem abE {objs : aI} {x : aP} {y : StP} (hy : stI x y) (hm : ∀ o ∈ stO x y, o ∈ objs) : eb objs (stC x y) (x.tw 0) := by
 have h1 : ∀ o ∈ qe x.classes y.1, o ∈ objs := fun o h => hm o (List.mem_append_left _ h)
 have h2 : ∀ o ∈ ad7 x.objects y.2.1, o ∈ objs := fun o h => hm o (List.mem_append_right _ (List.mem_append_left _ h))
 have h3 : ∀ o ∈ [(y.2.2.1, y.2.2.2, ba.row 1 (cg x.output))], o ∈ objs := fun o h => hm o (List.mem_append_right _ (List.mem_append_right _ h))
 exact (eb.cons (qP wZ hy.1 (h1 _ List.mem_cons_self) (fun o h => h1 o (List.mem_cons_of_mem _ h))) (eb.cons (t8 abY hy.2 (h2 _ List.mem_cons_self) (fun o h => h2 o (List.mem_cons_of_mem _ h))) (eb.cons (bR.msAll (len := x.output.length) (h3 _ List.mem_cons_self) (bJ _)) (.cons (.same _) (.cons (.same _) (.cons (.same _) .nil))))))
theorem oJ {objs : aI} {x : ak} {y : dE} (hy : imI x y) (hm : ∀ o ∈ imO x y, o ∈ objs) : bR objs (.agg (imC x y)) (.agg (x.tw 0)) := by
 unfold imO at hm
 have h1 : ∀ o ∈ cbO x.base y.1, o ∈ objs := fun o h => hm o (List.mem_append_left _ h)
 replace hm := fun o h => hm o (List.mem_append_right _ h)
 have h2 : ∀ o ∈ stO x.store y.2.1, o ∈ objs := fun o h => hm o (List.mem_append_left _ h)
 replace hm := fun o h => hm o (List.mem_append_right _ h)
 have h3 := hm _ (List.mem_append_left _ List.mem_cons_self)
 replace hm := fun o h => hm o (List.mem_append_right _ h)
 have h4 : ∀ o ∈ abx x.contexts y.2.2.2.1, o ∈ objs := fun o h => hm o (List.mem_append_left _ h)
 replace hm := fun o h => hm o (List.mem_append_right _ h)
 have h5 := hm _ (List.mem_append_left _ List.mem_cons_self)
 have h6 := hm _ (List.mem_append_right _ List.mem_cons_self)
 have h := ((acw hy.1 h1).append ((abE hy.2.1 h2).append (.cons (.msAll (len := x.blocks.length) h3 (by simp)) (.cons (t8 ack hy.2.2 (h4 _ List.mem_cons_self) (fun o h => h4 o (List.mem_cons_of_mem _ h))) (.cons (.msAll (len := x.processes.length) h5 (by simp)) (.cons (.msAll (len := x.ready.length) h6 (w8 _))
   (.cons (.same (.int .i64 x.now)) (.cons (.same (.int .i64 x.status)) (.cons (.same (.int .i64 x.value.kind)) (.cons (.same (.int .i64 x.value.number)) (.cons (.same (.str x.value.text)) (.cons (.same (.str x.fault)) .nil))))))))))))
 exact bR.agg (imC x y) (x.tw 0) h.1 h.2
theorem aeI (x : ak) (k : Int) (y : dE) : imC (ez k x) y = imC x y := by
 simp [imC, ez, cP, fE, ch]
theorem aeR {x : ak} (k : Int) {y : dE} (hy : imI x y) : imI (ez k x) y := by
 simpa [imI, cbI, stI, ez, cP, fE, ch] using hy
theorem wQ {objs : aI} {x : ak} {k : Int} {y : dE} (hy : imI x y) (hm : ∀ o ∈ imO (ez k x) y, o ∈ objs) : bR objs (.agg (imC x y)) (.agg ((ez k x).tw 0)) := by
 rw [<- aeI x k y]
 exact oJ (aeR k hy) hm
theorem uD {α β : Type} {mk : α -> β -> List TV} {ob : α -> β -> aI} {m s b n : Nat} (hmk : ∀ x p objs, (∀ o ∈ ob x p, o ∈ objs) -> ∀ t ∈ mk x p, dS objs t) (hob : ∀ x p objs s b o, (s, b, o) ∈ ob x p -> cB objs o) (l : List α) (ps : List β) :
   (∀ s' b' o, (s', b', o) ∈ (s, b, ba.row m (nRg mk l ps)) :: nOg ob l ps -> cB ((s, b, ba.row m (nRg mk l ps)) :: nOg ob l ps) o) /\ dS ((s, b, ba.row m (nRg mk l ps)) :: nOg ob l ps) (.ms s b 0 n) := by
 refine ⟨fun s' b' o h => ?_, .ms _ _ _ _ _ _ List.mem_cons_self⟩
 rcases List.mem_cons.1 h with h | h
 ·simp only [Prod.mk.injEq] at h
  obtain ⟨_, _, rfl⟩ := h
  intro t ht
  obtain ⟨r, hr, htr⟩ := List.mem_flatten.1 ht
  obtain ⟨x, p, rfl, hg⟩ := r9 hr
  exact hmk x p _ (fun o ho => List.mem_cons_of_mem _ (List.mem_flatten.2 ⟨_, hg ob, ho⟩)) t htr
 ·obtain ⟨z, hz, hoz⟩ := List.mem_flatten.1 h
  obtain ⟨x, p, rfl, _⟩ := r9 hz
  exact hob x p _ s' b' o hoz
theorem mX {α : Type} {f : α -> List TV} (h : ∀ x, ∀ t ∈ f x, t.flat = true) (l : List α) : ∀ t ∈ (l.map f).flatten, t.flat = true := fun t ht => by
 obtain ⟨r, hr, htr⟩ := List.mem_flatten.1 ht
 obtain ⟨i, _, rfl⟩ := List.mem_map.1 hr
 exact h i t htr
theorem tj (l : List ad) (objs : aI) : cB objs (.row 3 (l.map (ad.tw 0))) := fo (mX (fun x t ht => by
 simp only [ad.tw, List.mem_cons, List.not_mem_nil, or_false] at ht
 rcases ht with rfl | rfl | rfl <;> rfl) l)
theorem vq (l : List aq) (objs : aI) : cB objs (.row 6 (l.map (aq.tw 0))) := fo (mX (fun x t ht => by
 simp only [aq.tw, List.mem_cons, List.not_mem_nil, or_false] at ht
 rcases ht with rfl | rfl | rfl | rfl | rfl | rfl <;> rfl) l)
theorem uZ (l : List au) (objs : aI) : cB objs (.row 2 (l.map (au.tw 0))) := fo (mX (fun x t ht => by
 simp only [au.tw, List.mem_cons, List.not_mem_nil, or_false] at ht
 rcases ht with rfl | rfl <;> rfl) l)
theorem aav (l : List Int) (objs : aI) : cB objs (.row 1 (aS l)) := fo (mX (fun x t ht => by
 simp only [List.mem_cons, List.not_mem_nil, or_false] at ht
 rcases ht with rfl; rfl) l)
theorem ub (x : av) (p : Pl × Pl) (objs : aI) (h : ∀ o ∈ dh x p, o ∈ objs) : ∀ t ∈ bQ x p, dS objs t := fun t ht => by
 simp only [bQ, List.mem_cons, List.not_mem_nil, or_false] at ht
 rcases ht with rfl | rfl | rfl | rfl
 ·exact .flat _ rfl
 ·exact .flat _ rfl
 ·exact .ms _ _ _ _ _ _ (h _ List.mem_cons_self)
 ·exact .ms _ _ _ _ _ _ (h _ (List.mem_cons_of_mem _ List.mem_cons_self))
theorem tF (x : av) (p : Pl × Pl) (objs : aI) (s b : Nat) (o : ba) (h : (s, b, o) ∈ dh x p) : cB objs o := by
 simp only [dh, List.mem_cons, List.not_mem_nil, or_false, Prod.mk.injEq] at h
 rcases h with ⟨_, _, rfl⟩ | ⟨_, _, rfl⟩
 ·exact tj _ _
 ·exact aav _ _
theorem tc (x : ao) (p : Pl × Pl × Pl) (objs : aI) (h : ∀ o ∈ d9 x p, o ∈ objs) : ∀ t ∈ ek x p, dS objs t := fun t ht => by
 simp only [ek, List.mem_cons, List.not_mem_nil, or_false] at ht
 rcases ht with rfl | rfl | rfl | rfl | rfl | rfl | rfl | rfl | rfl | rfl | rfl | rfl | rfl | rfl
 all_goals first
   | exact .flat _ rfl
   | exact .ms _ _ _ _ _ _ (h _ List.mem_cons_self)
   | exact .ms _ _ _ _ _ _ (h _ (List.mem_cons_of_mem _ List.mem_cons_self))
   | exact .ms _ _ _ _ _ _ (h _ (List.mem_cons_of_mem _ (List.mem_cons_of_mem _ List.mem_cons_self)))
theorem tA (x : ao) (p : Pl × Pl × Pl) (objs : aI) (s b : Nat) (o : ba) (h : (s, b, o) ∈ d9 x p) : cB objs o := by
 simp only [d9, List.mem_cons, List.not_mem_nil, or_false, Prod.mk.injEq] at h
 rcases h with ⟨_, _, rfl⟩ | ⟨_, _, rfl⟩ | ⟨_, _, rfl⟩ <;> exact tj _ _
theorem aa0 (x : aP) (y : StP) : (∀ s b o, (s, b, o) ∈ stO x y -> cB (stO x y) o) /\ ∀ t ∈ stC x y, dS (stO x y) t := by
 have h1 := iC (m := 3) (s := y.1.1.1) (b := y.1.1.2) (n := x.classes.length) hY gX x.classes y.1.2
 have h2 := uD (m := 4) (s := y.2.1.1.1) (b := y.2.1.1.2) (n := x.objects.length) ub tF x.objects y.2.1.2
 have m1 : ∀ o ∈ qe x.classes y.1, o ∈ stO x y := fun o h => List.mem_append_left _ h
 have m2 : ∀ o ∈ ad7 x.objects y.2.1, o ∈ stO x y := fun o h => List.mem_append_right _ (List.mem_append_left _ h)
 have m3 : ∀ o ∈ [(y.2.2.1, y.2.2.2, ba.row 1 (cg x.output))], o ∈ stO x y := fun o h => List.mem_append_right _ (List.mem_append_right _ h)
 refine ⟨fun s b o h => ?_, fun t ht => ?_⟩
 ·rcases List.mem_append.1 h with h | h
  ·exact em m1 (h1.1 s b o h)
  ·rcases List.mem_append.1 h with h | h
   ·exact em m2 (h2.1 s b o h)
   ·simp only [List.mem_singleton, Prod.mk.injEq] at h
    obtain ⟨_, _, rfl⟩ := h
    exact fo (tY _)
 ·simp only [stC, List.mem_cons, List.not_mem_nil, or_false] at ht
  rcases ht with rfl | rfl | rfl | rfl | rfl | rfl
  ·exact dP m1 h1.2
  ·exact dP m2 h2.2
  ·exact .ms _ _ _ _ _ _ (m3 _ List.mem_cons_self)
  ·exact .flat _ rfl
  ·exact .flat _ rfl
  ·exact .flat _ rfl
theorem adg (x : ak) (y : dE) : (∀ s b o, (s, b, o) ∈ imO x y -> cB (imO x y) o) /\ dS (imO x y) (.agg (imC x y)) := by
 have h1 := adj x.base y.1
 have h2 := aa0 x.store y.2.1
 have h4 := uD (m := 14) (s := y.2.2.2.1.1.1) (b := y.2.2.2.1.1.2) (n := x.contexts.length) tc tA x.contexts y.2.2.2.1.2
 have m0 : ∀ o ∈ imO x y, o ∈ imO x y := fun o h => h
 have m1 : ∀ o ∈ cbO x.base y.1, o ∈ imO x y := fun o h => m0 o (List.mem_append_left _ h)
 replace m0 := fun o h => m0 o (List.mem_append_right _ h)
 have m2 : ∀ o ∈ stO x.store y.2.1, o ∈ imO x y := fun o h => m0 o (List.mem_append_left _ h)
 replace m0 := fun o h => m0 o (List.mem_append_right _ h)
 have m3 := m0 _ (List.mem_append_left _ List.mem_cons_self)
 replace m0 := fun o h => m0 o (List.mem_append_right _ h)
 have m4 : ∀ o ∈ abx x.contexts y.2.2.2.1, o ∈ imO x y := fun o h => m0 o (List.mem_append_left _ h)
 replace m0 := fun o h => m0 o (List.mem_append_right _ h)
 have m5 := m0 _ (List.mem_append_left _ List.mem_cons_self)
 have m6 := m0 _ (List.mem_append_right _ List.mem_cons_self)
 refine ⟨fun s b o h => ?_, .agg _ fun t ht => ?_⟩
 ·rcases List.mem_append.1 h with h | h
  ·exact em m1 (h1.1 s b o h)
  rcases List.mem_append.1 h with h | h
  ·exact em m2 (h2.1 s b o h)
  rcases List.mem_append.1 h with h | h
  ·simp only [List.mem_singleton, Prod.mk.injEq] at h
   obtain ⟨_, _, rfl⟩ := h
   exact vq _ _
  rcases List.mem_append.1 h with h | h
  ·exact em m4 (h4.1 s b o h)
  rcases List.mem_append.1 h with h | h
  ·simp only [List.mem_singleton, Prod.mk.injEq] at h
   obtain ⟨_, _, rfl⟩ := h
   exact uZ _ _
  ·simp only [List.mem_singleton, Prod.mk.injEq] at h
   obtain ⟨_, _, rfl⟩ := h
   exact aav _ _
 ·replace ht : t ∈ cbC x.base y.1 ++ (stC x.store y.2.1 ++ [.ms y.2.2.1.1 y.2.2.1.2 0 x.blocks.length, .ms y.2.2.2.1.1.1 y.2.2.2.1.1.2 0 x.contexts.length, .ms y.2.2.2.2.1.1 y.2.2.2.2.1.2 0 x.processes.length, .ms y.2.2.2.2.2.1 y.2.2.2.2.2.2 0 x.ready.length, .int .i64 x.now, .int .i64 x.status, .int .i64 x.value.kind, .int .i64 x.value.number, .str x.value.text, .str x.fault]) := ht
  rcases List.mem_append.1 ht with ht | ht
  ·cases h1.2 with
   | flat _ hf => exact absurd hf (by simp [TV.flat])
   | agg _ hk => exact dP m1 (hk t ht)
  rcases List.mem_append.1 ht with ht | ht
  ·exact dP m2 (h2.2 t ht)
  simp only [List.mem_cons, List.not_mem_nil, or_false] at ht
  rcases ht with rfl | rfl | rfl | rfl | rfl | rfl | rfl | rfl | rfl | rfl
  ·exact .ms _ _ _ _ _ _ m3
  ·exact dP m4 h4.2
  ·exact .ms _ _ _ _ _ _ m5
  ·exact .ms _ _ _ _ _ _ m6
  all_goals exact .flat _ rfl
instance {A B : Type} [Enc (List A)] [Enc (List B)] : Enc (List (A × B)) := ⟨fun y => Enc.enc (y.map Prod.fst, y.map Prod.snd), fun y => match (Enc.dec y : List A × List B) with | (a, b) => a.zip b, fun y => by
 rw [Enc.eq]
 induction y with
 | nil => rfl
 | cons z y ih => simpa using ih⟩
instance : Enc StP := inferInstanceAs (Enc (((Nat × Nat) × List (Nat × Nat)) × ((Nat × Nat) × List ((Nat × Nat) × (Nat × Nat))) × (Nat × Nat)))
instance : Enc dE := inferInstanceAs (Enc (CbP × StP × (Nat × Nat) × ((Nat × Nat) × List ((Nat × Nat) × (Nat × Nat) × (Nat × Nat))) × (Nat × Nat) × (Nat × Nat)))
theorem zO (x : ak) (v : Bool) (y : dE) (_ : imI x y) : (∀ s b o, (s, b, o) ∈ imO x y -> cB (imO x y) o) /\ dS (imO x y) (.tup [.agg (imC x y), .bool v]) :=
 ⟨(adg x y).1, .tup _ fun t ht => by
   simp only [List.mem_cons, List.not_mem_nil, or_false] at ht
   rcases ht with rfl | rfl
   ·exact (adg x y).2
   ·exact .flat _ rfl⟩
def af6 : ad := ⟨0, 0, ⟨#[]⟩⟩
theorem iK (L : List aI) (p : List Nat) {n : Nat} (hn : L.length = n) (h : p.isPerm (List.range n) = true) : (p.map (fun i => L.getD i [])).flatten.Perm L.flatten := by
 subst hn
 have h1 := (List.isPerm_iff.1 h).map (fun i => L.getD i [])
 have h2 : (List.range L.length).map (fun i => L.getD i []) = L := by
   apply List.ext_getElem
   ·simp
   ·intro i h1 h2
    simp at h1
    simp [h2]
 rw [h2] at h1
 exact ji h1
section
variable {G : World -> Prop}
end
section
variable {G : World -> Prop}
end
open Classical in
noncomputable def zi (m : ak) (n0 n1 n2 : Int) : Bool := decide (zt m n0 n1 n2)
open Classical in
theorem qM {m : ak} {n0 n1 n2 : Int} (h : ¬ zt m n0 n1 n2) : zi m n0 n1 n2 = false := decide_eq_false h
open Classical in
theorem wk {m : ak} {n0 n1 n2 : Int} (h : zt m n0 n1 n2) : zi m n0 n1 n2 = true := decide_eq_true h
theorem mU {m : ak} {n0 n2 : Int} : zt m n0 (-1) n2 ↔ n0 = -1 /\ n2 = 0 := by
 unfold zt
 rw [adr (by omega)]
 constructor
 ·rintro (⟨h1, _, h2⟩ | ⟨_, c, hc, _⟩)
  ·exact ⟨h1, h2⟩
  ·cases hc
 ·rintro ⟨h1, h2⟩; exact .inl ⟨h1, rfl, h2⟩
theorem xT {m : ak} {n0 n2 : Int} {u : Nat} (hu : u < m.contexts.length) : zt m n0 (u : Int) n2 ↔ n2 = 1 /\ m.contexts[u].mark = 3 /\ 0 <= n0 /\ OnW m n0 m.contexts[u].sender := by
 unfold zt
 rw [lE hu]
 constructor
 ·rintro (⟨_, h, _⟩ | ⟨h2, c, hc, h3⟩)
  ·omega
  ·cases hc; exact ⟨h2, h3⟩
 ·rintro ⟨h2, h3⟩; exact .inr ⟨h2, _, rfl, h3⟩
theorem xh {m : ak} {n0 n1 n2 : Int} (h : n1 ≠ -1) (hu : ¬ (0 <= n1 /\ n1 < m.contexts.length)) : ¬ zt m n0 n1 n2 := by
 rintro (⟨_, h1, _⟩ | ⟨_, c, hc, _⟩)
 ·exact h h1
 ·obtain ⟨h0, h1, _⟩ := rp hc; omega
theorem xH {m : ak} {n0 n1 n2 : Int} (h : n1 ≠ -1) (h2 : n2 ≠ 1) : ¬ zt m n0 n1 n2 := by
 rintro (⟨_, h1, _⟩ | ⟨h1, _⟩)
 ·exact h h1
 ·exact h2 h1
open Classical in
theorem aaA {m : ak} {a k : Int} : onB m a k = true ↔ OnW m a k := decide_eq_true_iff
theorem j9 {l : List Int} {i : Nat} (h : i < l.length) : (aS l)[i]? = some [.int .i64 l[i]] := aK h
theorem om {G : World -> Prop} (l1 l2 : Nat) (a b : List Int) (_hn : a.length <= 1048576) (hm : b.length <= 1048576) : Ct Tryz.prog G 280 [.sl l1 1 (aS a), .sl l2 1 (aS b)] (fun _ => .bool (decide (a = b))) := by
 refine ap Tryz.func280 rfl Tryz.ntmps280 rfl rfl fun w0 _ hG => ?_
 have hla := am a
 have hlb := am b
 by_cases hl : a.length = b.length
 ·repeat' refine W_ ?_
  apply aj (X := Nat) [0, 1, 12] (fun i => [(13, .int .i64 (i : Int))]) (fun _ => []) (fun i => i <= a.length /\ a.take i = b.take i) (fun i => a.length - i) 0 ⟨Nat.zero_le _, by simp⟩
  exact kp_; exact nw_
  ·exact .refl _
  rintro i ⟨hi, hs⟩
  try dsimp only
  by_cases hlt : i < a.length
  ·have hr1 := j9 hlt
   have hlt2 : i < b.length := by omega
   have hr2 := j9 hlt2
   have hta : a[i] = b[i] -> a.take (i + 1) = b.take (i + 1) := fun e => by rw [List.take_add_one, List.take_add_one, hs, List.getElem?_eq_getElem hlt, List.getElem?_eq_getElem hlt2, e]
   have hne : a[i] ≠ b[i] -> decide (a = b) = false := fun h => decide_eq_false fun e => h (by subst e; rfl)
   generalize a[i] = x at hr1 hta hne
   generalize b[i] = y at hr2 hta hne
   by_cases hx : x = y
   ·have hx' : ¬ x ≠ y := fun h => h hx
    repeat' refine V_ ?_
    exact ag (i + 1) ⟨by omega, hta hx⟩ (by omega) (.of _ nw_ od_ pk_)
   ·have hx' : x ≠ y := hx
    rw [hne hx]
    repeat' refine V_ ?_
    exact r1_
  ·rw [List.take_of_length_le (by omega), List.take_of_length_le (by omega)] at hs
   rw [decide_eq_true hs]
   repeat' refine W_ ?_
   exact r1_
 ·rw [decide_eq_false (p := a = b) fun e => hl (by rw [e])]
  repeat' refine W_ ?_
  exact r1_
theorem oY {G : World -> Prop} (hst : ay G) (l1 l2 : Nat) (a b : List Int) (hn : a.length <= 1048576) (hm : b.length <= 1048576) : Ct Tryz.prog G 245 [.sl l1 1 (aS a), .sl l2 1 (aS b)] (fun _ => .bool (decide (a = b))) := by
 refine ap Tryz.func245 rfl Tryz.ntmps245 rfl rfl fun w0 _ hG => ?_
 repeat' (first | refine W_ ?_ | refine ab hG hst (om l1 l2 a b hn hm) ?_)
 exact r1_
theorem pu (lo l2 : Nat) (m : ak) (hsm : m.small 1048576) (hsd : k7 m) (n0 n1 n2 : Int) : Ct Tryz.prog GL 184 [.agg (m.tw lo), .sl l2 1 [[.int .i64 n0], [.int .i64 n1], [.int .i64 n2]]] (fun _ => .bool (zi m n0 n1 n2)) := by
 refine ap Tryz.func184 rfl Tryz.ntmps184 rfl rfl fun w0 _ hG => ?_
 have hst := dx
 have hlx := ao.len lo m.contexts
 have hxl := hsm.2.2.2.1.1
 have hon := fun (k0 a : Int) h => xe (G := GL) w0.heap.size lo m hxl hsd k0 a h
 have hxr := fun (i : Nat) (h : i < m.contexts.length) => dJ (lo := lo) (l := m.contexts) h
 have hsn := oY hst l2 w0.heap.size [n0, n1, n2] [-1, -1, 0] (by simp) (by simp)
 simp only [aS, List.map_cons, List.map_nil] at hsn
 unfold ak.tw at hon |-
 by_cases h1 : n1 = -1
 ·subst h1
  by_cases h0 : n0 = -1 /\ n2 = 0
  ·obtain ⟨rfl, rfl⟩ := h0
   rw [wk (mU.2 ⟨rfl, rfl⟩)]
   rw [decide_eq_true rfl] at hsn
   repeat' (first | refine W_ ?_ | refine aL ?_ | refine dV ?_ | refine ab hG hst (hsn) ?_)
   exact r1_
  rw [qM fun h => h0 (mU.1 h)]
  rw [decide_eq_false fun e => h0 (by simp at e; exact e)] at hsn
  have k1 := aN (G := GL) (-1) 0 ((m.contexts.length : Int) - 1)
  rw [show inR (-1) 0 ((m.contexts.length : Int) - 1) = false from by simp only [inR, decide_eq_false_iff_not]; omega] at k1
  have k2 := aN (G := GL) (-1) 0 ((m.contexts.length - 1 : Nat) : Int)
  rw [show inR (-1) 0 ((m.contexts.length - 1 : Nat) : Int) = false from by simp only [inR, decide_eq_false_iff_not]; omega] at k2
  by_cases hz : 1 <= m.contexts.length
  all_goals
    repeat' (first | refine V_ ?_ | refine aL ?_ | refine dV ?_ | refine ab hG hst (hsn) ?_ | refine ae hG hst (k1) ?_ | refine ae hG hst (k2) ?_ | refine g_ (fun hg => ?_) (fun hg => ?_))
    all_goals
      exact r1_
 rw [decide_eq_false fun e => h1 (by simp at e; exact e.2.1)] at hsn
 by_cases h2 : n2 = 1
 case neg =>
   rw [qM (xH h1 h2)]
   repeat' (first | refine V_ ?_ | refine aL ?_ | refine dV ?_ | refine ab hG hst (hsn) ?_)
   exact r1_
 have k1 := aN (G := GL) n1 0 ((m.contexts.length : Int) - 1)
 by_cases hin : 0 <= n1 /\ n1 < m.contexts.length
 case neg =>
   rw [qM (xh h1 hin)]
   rw [show inR n1 0 ((m.contexts.length : Int) - 1) = false from by simp only [inR, decide_eq_false_iff_not]; omega] at k1
   by_cases hz : 1 <= m.contexts.length
   ·rw [show (m.contexts.length : Int) - 1 = ((m.contexts.length - 1 : Nat) : Int) by omega] at k1
    repeat' (first | refine V_ ?_ | refine aL ?_ | refine dV ?_ | refine ab hG hst (hsn) ?_ | refine ae hG hst (k1) ?_)
    exact r1_
   ·repeat' (first | refine V_ ?_ | refine aL ?_ | refine dV ?_ | refine ab hG hst (hsn) ?_ | refine ae hG hst (k1) ?_)
    exact r1_
 rw [show inR n1 0 ((m.contexts.length : Int) - 1) = true from by simp only [inR, decide_eq_true_eq]; omega] at k1
 rw [show (m.contexts.length : Int) - 1 = ((m.contexts.length - 1 : Nat) : Int) by omega] at k1
 obtain ⟨u, rfl⟩ : ∃ u : Nat, n1 = u := ⟨n1.toNat, by omega⟩
 have hu : u < m.contexts.length := by omega
 have hru := hxr u hu
 have hiff := xT (m := m) (n0 := n0) (n2 := n2) hu
 have hsu := hsd u hu
 have hot := hon m.contexts[u].sender n0 (by omega)
 have hob : onB m n0 m.contexts[u].sender = true ↔ OnW m n0 m.contexts[u].sender := aaA
 generalize onB m n0 m.contexts[u].sender = b at hot hob
 rw [<- hob] at hiff
 generalize m.contexts[u] = c at hru hiff hot
 have hF := qM (m := m) (n0 := n0) (n1 := (u : Int)) (n2 := n2)
 have hT := wk (m := m) (n0 := n0) (n1 := (u : Int)) (n2 := n2)
 rw [hiff] at hF hT
 generalize zi m n0 (u : Int) n2 = V at hF hT |-
 by_cases h3 : c.mark = 3
 case neg =>
   rw [hF fun h => h3 h.2.1]
   repeat' (first | refine V_ ?_ | refine aL ?_ | refine dV ?_ | refine ab hG hst (hsn) ?_ | refine ae hG hst (k1) ?_)
   exact r1_
 by_cases h0 : 0 <= n0
 case neg =>
   rw [hF fun h => h0 h.2.2.1]
   repeat' (first | refine V_ ?_ | refine aL ?_ | refine dV ?_ | refine ab hG hst (hsn) ?_ | refine ae hG hst (k1) ?_)
   exact r1_
 cases b
 ·rw [hF fun h => by have := h.2.2.2; cases this]
  repeat' (first | refine V_ ?_ | refine aL ?_ | refine dV ?_ | refine ab hG hst (hsn) ?_ | refine ae hG hst (k1) ?_ | refine ae hG hst (hot) ?_)
  exact r1_
 ·rw [hT ⟨h2, h3, h0, rfl⟩]
  repeat' (first | refine V_ ?_ | refine aL ?_ | refine dV ?_ | refine ab hG hst (hsn) ?_ | refine ae hG hst (k1) ?_ | refine ae hG hst (hot) ?_)
  exact r1_
end Go.Proofs.YtiihihgjiklnoaaGreatDoor
