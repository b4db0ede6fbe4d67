/- Part 46 of the proof. -/
import Derived.Test.YtiihihgjiklnoaaGreatDoorSx3
import Derived.Test.YtiihihgjiklnoaaGreatDoorSx25
import Derived.Test.YtiihihgjiklnoaaGreatDoorSx38
import Derived.Test.YtiihihgjiklnoaaGreatDoorSx39
import Derived.Test.YtiihihgjiklnoaaGreatDoorSx34
import Derived.Test.YtiihihgjiklnoaaGreatDoorSx41
import Derived.Test.YtiihihgjiklnoaaGreatDoorSx40
import Derived.Test.YtiihihgjiklnoaaGreatDoorSx17
import Derived.Test.YtiihihgjiklnoaaGreatDoorSx44
import Derived.Test.YtiihihgjiklnoaaGreatDoorSx31
set_option maxHeartbeats 4000000
set_option maxRecDepth 20000
namespace Go.Proofs.YtiihihgjiklnoaaGreatDoor
open Go Go.RowKit
section
variable {G : World -> Prop}
theorem vE (K : Nat) (cc : Int) (cs : Bool) (cl : ByteArray) (e : ar) : Ct Tryz.prog G 105 [.agg [.int .i64 e.owner, .bool e.class_, .str e.selector, .int .i64 e.code], .cp K [.int .i64 cc], .cp K [.bool cs], .cp K [.str cl]] (fun _ => .bool (zJ cc cs cl e)) := by
 refine ap Tryz.func105 rfl Tryz.ntmps105 rfl rfl fun w0 _ hG => ?_
 by_cases h1 : e.owner = cc
 ·repeat' (first | refine W_ ?_ | refine aL ?_ | refine g_ (fun hg => ?_) (fun hg => ?_))
  all_goals
    refine aE x_ rfl (.tmp _ _ rfl) (fun _ => ?_)
    exact aM (by simp_all [zJ])
 ·repeat' (first | refine W_ ?_ | refine aL ?_)
  all_goals
    refine aE x_ rfl (.tmp _ _ rfl) (fun _ => ?_)
    exact aM (by simp_all [zJ])
theorem ua (hst : ay G) {s b K : Nat} {cc : Int} {cs : Bool} {cl : ByteArray} {p : ar -> Bool} (l : List ar) (hn : l.length <= 1048576)
   (hp : ∀ e : ar, Ct Tryz.prog G 105 [.agg [.int .i64 e.owner, .bool e.class_, .str e.selector, .int .i64 e.code], .cp K [.int .i64 cc], .cp K [.bool cs], .cp K [.str cl]] (fun _ => .bool (p e))) :
   CtM Tryz.prog G 192 [.ms s b 0 l.length, .fn 105 [.cp K [.int .i64 cc], .cp K [.bool cs], .cp K [.str cl]]] [(s, b, .row 4 (l.map (ar.tw 0)))] (fun _ : Unit => True) (fun _ => [(s, b, .row 4 (l.map (ar.tw 0)))]) (fun _ => .int .i64 (aeq p l)) := by
 refine aA Tryz.func192 rfl Tryz.ntmps192 rfl rfl rfl fun w0 R gs objsR hG hR => ?_
 obtain rfl := hR.inv1
 clear hR
 have hlen : (l.map (ar.tw 0)).length = l.length := List.length_map _
 repeat' refine W_ ?_
 apply aj (X := Nat) [0, 1, 7, 1000000] (fun i => [(8, .int .i64 (i : Int))]) (fun _ => (s, b, .row 4 (l.map (ar.tw 0))) :: R) (fun i => i <= l.length /\ ∀ y ∈ l.take i, p y = false) (fun i => l.length - i) 0 ⟨Nat.zero_le _, by simp⟩
 exact kp_; exact nw_
 ·exact .refl _
 rintro i ⟨hi, hs⟩
 try dsimp only
 by_cases hlt : i < l.length
 ·have hra : (l.map (ar.tw 0))[i]? = some (l[i].tw 0) := aK hlt
  have hta := aX (p := fun y => p y = false) hlt hs
  have htr : p l[i] = true -> aeq p l = i := fun e => abn hlt e hs
  have hct := hp l[i]
  generalize l[i] = e at hra hta htr hct
  rw [show e.tw 0 = [.int .i64 e.owner, .bool e.class_, .str e.selector, .int .i64 e.code] from rfl] at hra
  cases hpe : p e
  ·rw [hpe] at hct
   repeat' (first | refine W_ ?_ | ((with_reducible apply kh); rfl; rfl; kernel_rfl; exact hG; exact hst; (repeat (first | exact bI.nil | ((with_reducible apply bI.cons); rfl; exact .same _))); (repeat (first | exact fZ.nil | ((with_reducible apply fZ.cons); (first | ((with_reducible apply bR.mpSame); (repeat (first | with_reducible exact mh | with_reducible refine mt ?_))) | exact bR.same _)))); rfl; exact hct))
   exact ag (i + 1) ⟨by omega, hta hpe⟩ (by omega) (.of _ nw_ od_ (.refl _))
  ·rw [hpe] at hct
   rw [htr hpe]
   repeat' (first | refine W_ ?_ | ((with_reducible apply kh); rfl; rfl; kernel_rfl; exact hG; exact hst; (repeat (first | exact bI.nil | ((with_reducible apply bI.cons); rfl; exact .same _))); (repeat (first | exact fZ.nil | ((with_reducible apply fZ.cons); (first | ((with_reducible apply bR.mpSame); (repeat (first | with_reducible exact mh | with_reducible refine mt ?_))) | exact bR.same _)))); rfl; exact hct))
   exact aw x_ rfl () trivial rfl (.cons _ _ _ _ (.nil _)) (.refl _) (.tmp _ _ rfl) rfl
 ·rw [List.take_of_length_le (by omega)] at hs
  rw [tM hs]
  repeat' refine W_ ?_
  exact aw x_ rfl () trivial rfl (.cons _ _ _ _ (.nil _)) (.refl _) (.tmp _ _ rfl) rfl
theorem tR (hst : ay G) {s b K : Nat} {cc : Int} {cs : Bool} {cl : ByteArray} {p : ar -> Bool} (l : List ar) (hn : l.length <= 1048576)
   (hp : ∀ e : ar, Ct Tryz.prog G 105 [.agg [.int .i64 e.owner, .bool e.class_, .str e.selector, .int .i64 e.code], .cp K [.int .i64 cc], .cp K [.bool cs], .cp K [.str cl]] (fun _ => .bool (p e))) :
   CtM Tryz.prog G 104 [.ms s b 0 l.length, .fn 105 [.cp K [.int .i64 cc], .cp K [.bool cs], .cp K [.str cl]]] [(s, b, .row 4 (l.map (ar.tw 0)))] (fun _ : Unit => True)
     (fun _ => [(s, b, .row 4 ((l.filter (fun e => !p e)).map (ar.tw 0)))]) (fun _ => .ms s b 0 (l.filter (fun e => !p e)).length) := by
 refine aA Tryz.func104 rfl Tryz.ntmps104 rfl rfl rfl fun w0 R gs objsR hG hR => ?_
 obtain rfl := hR.inv1
 clear hR
 have hlen : (l.map (ar.tw 0)).length = l.length := List.length_map _
 have hix := ua hst (s := s) (b := b) (K := K) l hn hp
 by_cases hall : ∀ y ∈ l, p y = false
 ·rw [tM hall] at hix
  have hfl : l.filter (fun e => !p e) = l := List.filter_eq_self.2 fun y hy => by rw [hall y hy]; rfl
  rw [hfl]
  repeat' (first | refine W_ ?_ | ((with_reducible apply aJ); rfl; kernel_rfl; (repeat (first | exact aH.nil | ((with_reducible apply aH.cons); rfl))); exact hG; exact hix; exact .cons _ _ _ _ (.nil _); intro y hy; refine bN ?_))
  exact aw x_ rfl () trivial rfl (.cons _ _ _ _ (.nil _)) (.refl _) (.tmp _ _ rfl) rfl
 ·obtain ⟨i, hi, hpi, hbe⟩ : ∃ i, ∃ h : i < l.length, p l[i] = true /\ ∀ y ∈ l.take i, p y = false := by
    have hex : ∃ y ∈ l, p y = true := by
      obtain ⟨y, hy⟩ := Classical.not_forall.1 hall
      obtain ⟨hy, h2⟩ := Classical.not_imp.1 hy
      exact ⟨y, hy, by simpa using h2⟩
    have hlt : l.findIdx p < l.length := List.findIdx_lt_length.2 hex
    refine ⟨l.findIdx p, hlt, List.findIdx_getElem, fun y hy => ?_⟩
    obtain ⟨j, hj, rfl⟩ := List.mem_take_iff_getElem.1 hy
    simpa using List.not_of_lt_findIdx (p := p) (i := j) (by omega)
  rw [abn hi hpi hbe] at hix
  have hF : (l.take i).filter (fun e => !p e) = l.take i := List.filter_eq_self.2 fun y hy => by rw [hbe y hy]; rfl
  have hstart : aeo p l (i + 1, l) := by
    have e := lb (fun e => !p e) hi (by simp [hpi])
    rw [hF] at e
    have el : (l.take i).length = i := by rw [List.length_take]; omega
    refine ⟨by dsimp only; omega, rfl, ?_, rfl, ?_⟩ <;> dsimp only <;> rw [e]
    ·rw [el]
    ·omega
  have hk0 : ((l.take (i + 1)).filter (fun e => !p e)).length = i := by
    rw [lb (fun e => !p e) hi (by simp [hpi]), hF, List.length_take]; omega
  have hi2 : ¬ ((i : Int) = -1) := by omega
  repeat' (first | refine W_ ?_ | ((with_reducible apply aJ); rfl; kernel_rfl; (repeat (first | exact aH.nil | ((with_reducible apply aH.cons); rfl))); exact hG; exact hix; exact .cons _ _ _ _ (.nil _); intro y hy; refine bN ?_))
  rw [<- hk0]
  apply aj (X := Nat × List ar) [0, 1, 1000000] (fun y => [(6, .int .i64 (y.1 : Int)), (5, .int .i64 (((l.take y.1).filter (fun e => !p e)).length : Int))]) (fun y => (s, b, .row 4 (y.2.map (ar.tw 0))) :: R) (aeo p l) (fun y => l.length - y.1) (i + 1, l) hstart
  ·repeat (first | exact jg.nil | (apply jg.cons; rfl))
  ·refine cw.envCons (by dsimp only; rw [hk0]; rfl) (cw.envCons (by dsimp only; rw [hk0]; rfl) cw.envNil)
  ·exact .refl _
  rintro ⟨j, c⟩ hI
  have h1 := hI.1
  have h2 := hI.2.1
  have h3 := hI.2.2.1
  have h4 := hI.2.2.2.1
  have h5 := hI.2.2.2.2
  dsimp only at h1 h2 h3 h4 h5 |-
  have hcl : (c.map (ar.tw 0)).length = l.length := by rw [List.length_map, h2]
  by_cases hlt : j < l.length
  ·have hcj : c[j]'(by omega) = l[j] := by
     have e1 : (c.drop j)[0]'(by rw [List.length_drop]; omega) = (l.drop j)[0]'(by rw [List.length_drop]; omega) := by simp only [h4]
     simpa using e1
   have hra : (c.map (ar.tw 0))[j]? = some (l[j].tw 0) := by rw [<- hcj]; exact aK (by omega)
   have hsk := aa4 hI hlt
   have hke := abc hI hlt
   have hct := hp l[j]
   generalize l[j] = e at hra hsk hke hct
   rw [show e.tw 0 = [.int .i64 e.owner, .bool e.class_, .str e.selector, .int .i64 e.code] from rfl] at hra
   cases hpe : p e
   ·rw [hpe] at hct
    obtain ⟨k1, k2⟩ := hke hpe
    clear hsk hke h3 h4 hcj
    generalize hk : ((l.take j).filter (fun e => !p e)).length = k at *
    have hrk : (c.map (ar.tw 0))[k]? = some ((c[k]'(by omega)).tw 0) := aK (by omega)
    generalize c[k]'(by omega) = e2 at hrk
    rw [show e2.tw 0 = [.int .i64 e2.owner, .bool e2.class_, .str e2.selector, .int .i64 e2.code] from rfl] at hrk
    have hset : (c.map (ar.tw 0)).set k [.int .i64 e.owner, .bool e.class_, .str e.selector, .int .i64 e.code] = (c.set k e).map (ar.tw 0) := by rw [List.map_set]; rfl
    repeat' (first | refine W_ ?_ | (refine ai ?_; intro ss bb) | refine ac ?_ | refine bg ?_ | ((with_reducible apply kh); rfl; rfl; kernel_rfl; exact hG; exact hst; (repeat (first | exact bI.nil | ((with_reducible apply bI.cons); rfl; exact .same _))); (repeat (first | exact fZ.nil | ((with_reducible apply fZ.cons); (first | ((with_reducible apply bR.mpSame); (repeat (first | with_reducible exact mh | with_reducible refine mt ?_))) | exact bR.same _)))); rfl; exact hct))
    refine ag (j + 1, c.set k e) k1 (by dsimp only; omega) (.of _ (by dsimp only; rw [k2]; exact (by repeat (first | exact cw.envNil | refine cw.envCons we_ ?_))) od_ ?_)
    dsimp only
    rw [<- hset]
    exact .drop (.refl _)
   ·rw [hpe] at hct
    obtain ⟨k1, k2⟩ := hsk hpe
    repeat' (first | refine W_ ?_ | (refine ai ?_; intro ss bb) | refine ac ?_ | ((with_reducible apply kh); rfl; rfl; kernel_rfl; exact hG; exact hst; (repeat (first | exact bI.nil | ((with_reducible apply bI.cons); rfl; exact .same _))); (repeat (first | exact fZ.nil | ((with_reducible apply fZ.cons); (first | ((with_reducible apply bR.mpSame); (repeat (first | with_reducible exact mh | with_reducible refine mt ?_))) | exact bR.same _)))); rfl; exact hct))
    refine ag (j + 1, c) k1 (by dsimp only; omega) (.of _ (by dsimp only; rw [k2]; exact (by repeat (first | exact cw.envNil | refine cw.envCons we_ ?_))) od_ ?_)
    exact .drop (.refl _)
  ·obtain rfl : j = l.length := by omega
   rw [List.take_of_length_le (Nat.le_refl _)] at h3 h5 |-
   have hclr : (c.map (ar.tw 0)).take (0 + (l.filter (fun e => !p e)).length) = (l.filter (fun e => !p e)).map (ar.tw 0) := by rw [Nat.zero_add, <- List.map_take, h3]
   generalize l.filter (fun e => !p e) = F at h5 hclr |-
   repeat' (first | refine W_ ?_ | refine abf ?_ | ((with_reducible apply aee); rfl; rfl; kernel_rfl; kernel_rfl; (repeat (first | with_reducible exact Upd.head _ | with_reducible apply Upd.tail)); rfl; omega; exact hclr) | ((with_reducible apply tS); rfl; rfl; rfl; (repeat (first | with_reducible exact mh | with_reducible refine mt ?_)); kernel_rfl; kernel_rfl; (first | (with_reducible first | exact rfl | exact oU | exact oT | exact oV | exact oS) | exact rfl | exact cN (by omega) | omega); (first | assumption | omega)))
   exact aw x_ rfl () trivial rfl (.cons _ _ _ _ (.nil _)) (.refl _) (.tmp _ _ rfl) rfl
end
def imA (x : ak) (y : dE) : aI := qe x.base.classes y.1.1 ++ aer x.base.codes y.1.2.1
def imB (x : ak) (y : dE) : aI := stO x.store y.2.1 ++ ([(y.2.2.1.1, y.2.2.1.2, .row 6 (x.blocks.map (aq.tw 0)))] ++ (abx x.contexts y.2.2.2.1 ++ ([(y.2.2.2.2.1.1, y.2.2.2.2.1.2, .row 2 (x.processes.map (au.tw 0)))] ++ [(y.2.2.2.2.2.1, y.2.2.2.2.2.2, .row 1 (aS x.ready))])))
theorem aaQ (x : ak) (y : dE) : imO x y = imA x y ++ ((y.1.2.2.1, y.1.2.2.2, .row 4 (x.base.entries.map (ar.tw 0))) :: imB x y) := by
 simp [imO, cbO, adG, imA, imB]
theorem uw (x : ak) (y : dE) (z : Nat × Nat × ba) (R : aI) : cC ((y.1.2.2.1, y.1.2.2.2, .row 4 (x.base.entries.map (ar.tw 0))) :: z :: (imA x y ++ (imB x y ++ R))) (imO x y ++ (z :: R)) := .perm (by
 rw [aaQ]
 have h := iK (n := 5) [imA x y, [(y.1.2.2.1, y.1.2.2.2, ba.row 4 (x.base.entries.map (ar.tw 0)))], imB x y, [z], R] [1, 3, 0, 2, 4] rfl (by decide)
 simpa using h)
theorem qg (x : ak) (y : dE) (R : aI) : cC (imO x y ++ R) ((y.1.2.2.1, y.1.2.2.2, .row 4 (x.base.entries.map (ar.tw 0))) :: (imA x y ++ (imB x y ++ R))) := .perm (by
 rw [aaQ]
 simp)
def afa (m : ak) (L : List ar) : ak := ⟨⟨m.base.classes, m.base.codes, L, m.base.main⟩, m.store, m.blocks, m.contexts, m.processes, m.ready, m.now, m.status, m.value, m.fault⟩
def afg (y : dE) (p : Nat × Nat) : dE := ((y.1.1, (y.1.2.1, p)), y.2)
theorem acY {m : ak} {y : dE} (h : imI m y) (L : List ar) (p : Nat × Nat) : imI (afa m L) (afg y p) := h
theorem acX {m : ak} {c : Int} {s : Bool} {l : ByteArray} (hV : dK m = true) (hn : ¬ (zr m c s l).length = m.base.entries.length) : co m c s l = true /\ bC m c s l = afa m (zr m c s l) := by
 have h : co m c s l = true := by
   unfold co
   rw [hV, Bool.true_and]
   exact decide_eq_true hn
 refine ⟨h, ?_⟩
 unfold bC
 rw [if_pos h]; rfl
theorem wY {m : ak} {c : Int} {s : Bool} {l : ByteArray} (h : dK m = false \/ (zr m c s l).length = m.base.entries.length) : co m c s l = false /\ bC m c s l = zIm := by
 have h : co m c s l = false := by
   unfold co
   rcases h with h | h
   ·rw [h, Bool.false_and]
   ·rw [decide_eq_false (fun k => k h), Bool.and_false]
 refine ⟨h, ?_⟩
 unfold bC
 rw [if_neg (by rw [h]; simp)]
theorem fI (lo : Nat) (m : ak) (hsm : m.small 1048576) (c : Int) (s : Bool) (l : ByteArray) : CtM Tryz.prog GL 38 [.agg (m.tw lo), .int .i64 c, .bool s, .str l] [] (imI (bC m c s l)) (imO (bC m c s l)) (fun y => .tup [.agg (imC (bC m c s l) y), .bool (co m c s l)]) := by
 refine aA Tryz.func38 rfl Tryz.ntmps38 rfl rfl rfl fun w0 R gs objsR hG hR => ?_
 obtain rfl := hR.inv0
 clear hR
 have hst := dx
 have hto := jS lo m hsm
 have hcp := hU hst lo m hsm
 cases hV : dK m with
 | false =>
   obtain ⟨hB, hI⟩ := wY (m := m) (c := c) (s := s) (l := l) (.inl hV)
   rw [hI, hB]
   rw [hV] at hto
   unfold ak.tw at hto |-
   repeat' (first | refine W_ ?_ | refine aL ?_ | (refine ai ?_; intro ss bb) | refine fF ?_ | refine ac ?_ | refine ab hG hst (hto) ?_)
   refine lx fun y hy => ?_
   exact ca (t1 := .agg (imC zIm y)) (t2 := .bool false) x_ rfl y hy rfl (.app _ R) (.drop (.refl _)) (.cell _ _ _ _ _ rfl mm_ (by kernel_rfl) (by kernel_rfl) (by kernel_rfl)) (.tmp _ _ rfl) rfl
 | true =>
   rw [hV] at hto
   unfold ak.tw at hto hcp |-
   have he1 := hsm.1.2.2.1
   have hdl := fun (s0 b0 : Nat) => tR (s := s0) (b := b0) (p := zJ c s l) hst m.base.entries he1 (fun e => vE (G := GL) w0.heap.size c s l e)
   repeat' (first | refine H_ 4 ?_ | refine aL ?_ | (refine ai ?_; intro ss bb) | refine ac ?_ | refine ab hG hst (hto) ?_ | ((with_reducible apply aJ); rfl; kernel_rfl; (repeat (first | exact aH.nil | ((with_reducible apply aH.cons); rfl))); exact hG; exact hcp; exact .nil _; intro y hy; refine cm (uw m y _ _) ?_))
   refine ⟨?_⟩
   rename_i s8 b8
   generalize ss = s10; generalize bb = b10
   have hdy := hdl y.1.2.2.1 y.1.2.2.2
   have hfin := qg (afa m (zr m c s l)) y R
   unfold imC
   refine dg (.perm (List.Perm.swap _ _ _)) ?_
   by_cases hn : (zr m c s l).length = m.base.entries.length
   ·obtain ⟨hB, hI⟩ := wY (m := m) (c := c) (s := s) (l := l) (.inr hn)
    rw [hI, hB]
    have hn2 : ((zr m c s l).length : Int) = (m.base.entries.length : Int) := by omega
    unfold zr at hn hn2
    repeat' (first | refine W_ ?_ | refine kw ?_ | refine fF ?_ | refine ac ?_ | ((with_reducible apply aJ); rfl; kernel_rfl; (repeat (first | exact aH.nil | ((with_reducible apply aH.cons); rfl))); exact hG; exact hdy; exact .cons _ _ _ _ (.nil _); rintro ⟨⟩ -; refine bN ?_))
    refine oy (objs' := (s8, b8, .box ak.tz) :: R) (.drop (.drop (.sub (.cons_cons _ ((List.sublist_append_right _ _).trans (List.sublist_append_right _ _)))))) ?_
    refine lx fun y hy => ?_
    exact ca (t1 := .agg (imC zIm y)) (t2 := .bool false) x_ rfl y hy rfl (.app _ R) (.drop (.refl _)) (.cell _ _ _ _ _ rfl mm_ (by kernel_rfl) (by kernel_rfl) (by kernel_rfl)) (.tmp _ _ rfl) rfl
   ·obtain ⟨hB, hI⟩ := acX (c := c) (s := s) (l := l) hV hn
    rw [hI, hB]
    have hn2 : ¬ ((zr m c s l).length : Int) = (m.base.entries.length : Int) := by omega
    unfold zr at hn hn2
    repeat' (first | refine W_ ?_ | refine kw ?_ | refine ac ?_ | ((with_reducible apply aJ); rfl; kernel_rfl; (repeat (first | exact aH.nil | ((with_reducible apply aH.cons); rfl))); exact hG; exact hdy; exact .cons _ _ _ _ (.nil _); rintro ⟨⟩ -; refine bN ?_))
    exact ca (t1 := .agg [.ms y.1.1.1.1 y.1.1.1.2 0 m.base.classes.length, .ms y.1.2.1.1.1 y.1.2.1.1.2 0 m.base.codes.length, .ms y.1.2.2.1 y.1.2.2.2 0 (List.filter (fun e => !zJ c s l e) m.base.entries).length, .int .i64 m.base.main, .ms y.2.1.1.1.1 y.2.1.1.1.2 0 m.store.classes.length, .ms y.2.1.2.1.1.1 y.2.1.2.1.1.2 0 m.store.objects.length, .ms y.2.1.2.2.1 y.2.1.2.2.2 0 m.store.output.length, .int .i64 m.store.ticks, .int .i64 m.store.budget, .int .i64 m.store.made, .ms y.2.2.1.1 y.2.2.1.2 0 m.blocks.length, .ms y.2.2.2.1.1.1 y.2.2.2.1.1.2 0 m.contexts.length, .ms y.2.2.2.2.1.1 y.2.2.2.2.1.2 0 m.processes.length, .ms y.2.2.2.2.2.1 y.2.2.2.2.2.2 0 m.ready.length, .int .i64 m.now, .int .i64 m.status, .int .i64 m.value.kind, .int .i64 m.value.number, .str m.value.text, .str m.fault]) (t2 := .bool true) x_ rfl y (acY hy _ y.1.2.2) rfl (.app _ R) (hfin.trans (.sub (.cons_cons _ (.cons _ (.cons _ (List.Sublist.refl _)))))) (.cell _ _ _ _ _ rfl mm_ (by kernel_rfl) (by kernel_rfl) (by kernel_rfl)) (.tmp _ _ rfl) rfl
theorem jL (lo : Nat) (m : ak) (hsm : m.small 1048576) (c : Int) (s : Bool) (l : ByteArray) : CtM Tryz.prog GL 37 [.agg (m.tw lo), .int .i64 c, .bool s, .str l] [] (imI (bC m c s l)) (imO (bC m c s l)) (fun y => .tup [.agg (imC (bC m c s l) y), .bool (co m c s l)]) := by
 refine aA Tryz.func37 rfl Tryz.ntmps37 rfl rfl rfl fun w0 R gs objsR hG hR => ?_
 obtain rfl := hR.inv0
 clear hR
 have hst := dx
 have hto := lv w0.heap.size lo m hsm
 have hcp := nl hst w0.heap.size lo m hsm
 cases hV : dK m with
 | false =>
   obtain ⟨hB, hI⟩ := wY (m := m) (c := c) (s := s) (l := l) (.inl hV)
   rw [hI, hB]
   rw [hV] at hto
   unfold ak.tw at hto |-
   repeat' (first | refine W_ ?_ | refine aL ?_ | (refine ai ?_; intro ss bb) | refine fF ?_ | refine ac ?_ | refine ab hG hst (hto) ?_)
   refine lx fun y hy => ?_
   exact ca (t1 := .agg (imC zIm y)) (t2 := .bool false) x_ rfl y hy rfl (.app _ R) (.drop (.refl _)) (.cell _ _ _ _ _ rfl mm_ (by kernel_rfl) (by kernel_rfl) (by kernel_rfl)) (.tmp _ _ rfl) rfl
 | true =>
   rw [hV] at hto
   unfold ak.tw at hto hcp |-
   have he1 := hsm.1.2.2.1
   repeat' (first | refine H_ 4 ?_ | refine aL ?_ | (refine ai ?_; intro ss bb) | refine ac ?_ | refine ab hG hst (hto) ?_ | ((with_reducible apply aJ); rfl; kernel_rfl; (repeat (first | exact aH.nil | ((with_reducible apply aH.cons); rfl))); exact hG; exact hcp; exact .nil _; intro y hy; refine cm (uw m y _ _) ?_))
   refine ⟨?_⟩
   rename_i s8 b8
   generalize ss = s10; generalize bb = b10
   have hfin := fun (L : List ar) (p : Nat × Nat) => qg (afa m L) (afg y p) R
   unfold imC
   repeat' (first | refine W_ ?_ | (refine kE ?_; intro ss bb))
   generalize ss = sl; generalize bb = bl0
   apply aj (X := Nat × Nat × List ar) [1, 2, 3, 8, 10, 1000000] (fun x => [(12, .int .i64 (x.1 : Int)), (11, .ms sl x.2.1 0 x.2.2.length)]) (fun x => (sl, x.2.1, .row 4 (x.2.2.map (ar.tw 0))) :: (s10, b10, .box [.ms y.1.1.1.1 y.1.1.1.2 0 m.base.classes.length, .ms y.1.2.1.1.1 y.1.2.1.1.2 0 m.base.codes.length, .ms y.1.2.2.1 y.1.2.2.2 0 m.base.entries.length, .int .i64 m.base.main, .ms y.2.1.1.1.1 y.2.1.1.1.2 0 m.store.classes.length, .ms y.2.1.2.1.1.1 y.2.1.2.1.1.2 0 m.store.objects.length, .ms y.2.1.2.2.1 y.2.1.2.2.2 0 m.store.output.length, .int .i64 m.store.ticks, .int .i64 m.store.budget, .int .i64 m.store.made, .ms y.2.2.1.1 y.2.2.1.2 0 m.blocks.length, .ms y.2.2.2.1.1.1 y.2.2.2.1.1.2 0 m.contexts.length, .ms y.2.2.2.2.1.1 y.2.2.2.2.1.2 0 m.processes.length, .ms y.2.2.2.2.2.1 y.2.2.2.2.2.2 0 m.ready.length, .int .i64 m.now, .int .i64 m.status, .int .i64 m.value.kind, .int .i64 m.value.number, .str m.value.text, .str m.fault]) :: (y.1.2.2.1, y.1.2.2.2, .row 4 (m.base.entries.map (ar.tw 0))) :: (s8, b8, .box ak.tz) :: (imA m y ++ (imB m y ++ R))) (fun x => x.1 <= m.base.entries.length /\ x.2.2 = (m.base.entries.take x.1).filter (fun e => !zJ c s l e)) (fun x => m.base.entries.length - x.1) (0, bl0, []) ⟨Nat.zero_le _, by simp⟩
   exact kp_; exact nw_
   ·exact .refl _
   rintro ⟨i, bl, L⟩ ⟨hi, hL⟩
   dsimp only at hi hL |-
   unfold ak.tz
   have hel := ar.len 0 m.base.entries
   have hLl : L.length <= m.base.entries.length := by
     rw [hL]
     exact Nat.le_trans (List.length_filter_le _ _) (by rw [List.length_take]; omega)
   by_cases hlt : i < m.base.entries.length
   ·have hra : (m.base.entries.map (ar.tw 0))[i]? = some (m.base.entries[i].tw 0) := aK hlt
    have hsn := uB (fun e => !zJ c s l e) hlt
    have hsk := lb (fun e => !zJ c s l e) hlt
    rw [<- hL] at hsn hsk
    generalize m.base.entries[i] = e at hra hsn hsk
    rw [show e.tw 0 = [.int .i64 e.owner, .bool e.class_, .str e.selector, .int .i64 e.code] from rfl] at hra
    have hap : L.map (ar.tw 0) ++ [[.int .i64 e.owner, .bool e.class_, .str e.selector, .int .i64 e.code]] = (L ++ [e]).map (ar.tw 0) := by rw [List.map_append]; rfl
    have hml : (L.map (ar.tw 0)).length = L.length := List.length_map _
    repeat' (first | refine W_ ?_ | (refine ai ?_; intro ss bb) | refine ac ?_ | refine dV ?_ | ((with_reducible apply eG); rfl; rfl; rfl; kernel_rfl; (repeat (first | with_reducible exact mh | with_reducible refine mt ?_)); exact hml; exact (rfl : _ = 1); omega; exact hap; (intro bq; (repeat (first | with_reducible exact Upd.head _ | with_reducible apply Upd.tail))); intro bb) | refine c_ (fun hc => ?_) (fun hc => ?_) | refine g_ (fun hg => ?_) (fun hg => ?_))
    all_goals first
      | exact ag (i + 1, bl, L) ⟨by dsimp only; omega, (hsk (by simp_all [zJ])).symm⟩ (by dsimp only; omega) (.of _ nw_ od_ (.drop (.refl _)))
      | exact ag (i + 1, bb, L ++ [e]) ⟨by dsimp only; omega, (hsn (by simp_all [zJ])).symm⟩ (by dsimp only; omega) (.of _ nw_ od_ (.drop (.refl _)))
   ·obtain rfl : i = m.base.entries.length := by omega
    rw [List.take_of_length_le (Nat.le_refl _)] at hL
    have hLr : L = zr m c s l := hL
    by_cases hn : L.length = m.base.entries.length
    ·obtain ⟨hB, hI⟩ := wY (m := m) (c := c) (s := s) (l := l) (.inr (hLr ▸ hn))
     rw [hI, hB]
     have hn2 : (L.length : Int) = (m.base.entries.length : Int) := by omega
     repeat' (first | refine W_ ?_ | refine fF ?_ | refine ac ?_)
     refine oy (objs' := (s8, b8, .box ak.tz) :: R) (.drop (.drop (.drop (.sub (.cons_cons _ ((List.sublist_append_right _ _).trans (List.sublist_append_right _ _))))))) ?_
     refine lx fun y hy => ?_
     exact ca (t1 := .agg (imC zIm y)) (t2 := .bool false) x_ rfl y hy rfl (.app _ R) (.drop (.refl _)) (.cell _ _ _ _ _ rfl mm_ (by kernel_rfl) (by kernel_rfl) (by kernel_rfl)) (.tmp _ _ rfl) rfl
    ·obtain ⟨hB, hI⟩ := acX (c := c) (s := s) (l := l) hV (hLr ▸ hn)
     rw [hI, hB, <- hLr]
     have hn2 : ¬ (L.length : Int) = (m.base.entries.length : Int) := by omega
     repeat' (first | refine W_ ?_ | refine ac ?_)
     exact ca (t1 := .agg [.ms y.1.1.1.1 y.1.1.1.2 0 m.base.classes.length, .ms y.1.2.1.1.1 y.1.2.1.1.2 0 m.base.codes.length, .ms sl bl 0 L.length, .int .i64 m.base.main, .ms y.2.1.1.1.1 y.2.1.1.1.2 0 m.store.classes.length, .ms y.2.1.2.1.1.1 y.2.1.2.1.1.2 0 m.store.objects.length, .ms y.2.1.2.2.1 y.2.1.2.2.2 0 m.store.output.length, .int .i64 m.store.ticks, .int .i64 m.store.budget, .int .i64 m.store.made, .ms y.2.2.1.1 y.2.2.1.2 0 m.blocks.length, .ms y.2.2.2.1.1.1 y.2.2.2.1.1.2 0 m.contexts.length, .ms y.2.2.2.2.1.1 y.2.2.2.2.1.2 0 m.processes.length, .ms y.2.2.2.2.2.1 y.2.2.2.2.2.2 0 m.ready.length, .int .i64 m.now, .int .i64 m.status, .int .i64 m.value.kind, .int .i64 m.value.number, .str m.value.text, .str m.fault]) (t2 := .bool true) x_ rfl (afg y (sl, bl)) (acY hy L (sl, bl)) rfl (.app _ R) ((hfin L (sl, bl)).trans (.sub (.cons_cons _ (.cons _ (.cons _ (.cons _ (List.Sublist.refl _))))))) (.cell _ _ _ _ _ rfl mm_ (by kernel_rfl) (by kernel_rfl) (by kernel_rfl)) (.tmp _ _ rfl) rfl
theorem iQ (x : ak) (hb : x.small 9223372036854775807) (q0 : Int) (q1 : Bool) (q2 : ByteArray) : Ct Tryz.prog GL 8 [.agg (x.tw 0), .int .i64 q0, .bool q1, .str q2] (fun _ => .bool true) := by
 have hst := dx
 have hto := fun hx => qt hst 0 x hx
 have htw := fun hx => oo hst 0 x hx
 refine ap Tryz.func8 rfl Tryz.ntmps8 rfl rfl fun w0 _ hG => ?_
 have hsp := fun hx => jL w0.heap.size x hx q0 q1 q2
 have him := fun (hx : x.small 1048576) => fI 0 x hx q0 q1 q2
 have him2 := fun (hx : x.small 1048576) => fI w0.heap.size x hx q0 q1 q2
 have heq := fun hx => jG hst 0 w0.heap.size x hx
 have hmk := fun (hx : x.small 1048576) y hy => fL hst x y hy hx 1 (by omega)
 have hsm : x.small 1048576 -> (bC x q0 q1 q2).small 1048576 := fun h => km h q0 q1 q2
 have hvw : ∀ {objs : aI} {y : dE}, imI x y -> (∀ o ∈ imO x y, o ∈ objs) -> bR objs (.agg (imC x y)) (.agg (x.tw 0)) := fun h1 h2 => oJ h1 h2
 have hnk := fun hx => jt (x := x) hx 1
 have hsz := qx hst 0 x 1048576 (by omega) hb
 generalize bC x q0 q1 q2 = sx at hsp him him2 hsm
 generalize co x q0 q1 q2 = vb at hsp him him2
 have hnew := zO sx vb
 have hvs : ∀ {objs : aI} {y : dE}, imI sx y -> (∀ o ∈ imO sx y, o ∈ objs) -> bR objs (.agg (imC sx y)) (.agg (sx.tw 0)) := fun h1 h2 => oJ h1 h2
 unfold ak.tw at hto htw hsp heq hvw him him2 hsz |-
 unfold imC at hsp him him2 hnew hvs
 by_cases hlong : (1048576 : Int) < (q2.size : Int)
 ·repeat' (first | refine W_ ?_ | refine aL ?_)
  exact r1_
 repeat' (first | refine H_ 5 ?_ | refine aL ?_ | ((with_reducible apply aJ); rfl; kernel_rfl; (repeat (first | exact aH.nil | ((with_reducible apply aH.cons); rfl))); exact hG; exact hsz; exact .nil _; intro y hy; refine bO ?_))
 refine ⟨?_⟩
 by_cases hneg : y < 0
 ·repeat' refine W_ ?_
  exact r1_
 have hx := hy.2.2 (by omega)
 replace hto := hto hx
 replace htw := htw hx
 replace hsp := hsp hx
 replace him := him hx
 replace him2 := him2 hx
 replace heq := heq hx
 replace hnk := hnk hx
 replace hmk := hmk hx
 replace hsm := hsm hx
 have hqs := jG hst 0 0 sx hsm
 clear hb hy hsz
 repeat' (first | refine H_ 8 ?_ | (refine ai ?_; intro ss bb) | refine ac ?_ | refine ab hG hst (hto) ?_ | ((with_reducible apply aJ); rfl; kernel_rfl; (repeat (first | exact aH.nil | ((with_reducible apply aH.cons); rfl))); exact hG; exact hsp; exact .nil _; intro ys hys))
 refine ⟨?_⟩
 generalize ss = s4; generalize bb = b4
 repeat' (first | refine H_ 9 ?_ | ((with_reducible apply aJ); rfl; kernel_rfl; (repeat (first | exact aH.nil | ((with_reducible apply aH.cons); rfl))); exact hG; exact htw; exact .nil _; intro y hy) | (refine ai ?_; intro ss bb) | refine ac ?_)
 refine ⟨?_⟩
 generalize ss = s5; generalize bb = b5
 have hl1 := hmk y hy
 clear hmk
 unfold imC at hl1 hvw
 repeat' (first | refine H_ 10 ?_ | (refine ai ?_; intro ss bb) | refine ac ?_ | ((with_reducible apply eQ); rfl; kernel_rfl; exact hG; exact hst; exact him; ((with_reducible apply bI.cons); rfl; exact hvw hy (fun o h => List.mem_cons_of_mem _ (List.mem_append_left _ h))); (repeat (first | exact bI.nil | ((with_reducible apply bI.cons); rfl; exact bR.same _))); exact hnew; intro yi hyi))
 refine ⟨?_⟩
 generalize ss = s7; generalize bb = b7
 refine dg (sS _ _ _ _ _ _) ?_
 repeat' (first | refine HV_ 12 ?_ | ((with_reducible apply fS); rfl; kernel_rfl; exact hG; exact hst; exact hqs; ((with_reducible apply bI.cons); rfl; exact hvs hyi fun o h => List.mem_cons_of_mem _ (List.mem_cons_of_mem _ (List.mem_cons_of_mem _ (List.mem_append_left _ h)))); ((with_reducible apply bI.cons); rfl; exact hvs hys fun o h => List.mem_cons_of_mem _ (List.mem_cons_of_mem _ (List.mem_cons_of_mem _ (List.mem_append_right _ (List.mem_append_right _ (List.mem_append_left _ h)))))); exact .nil) | refine c_ (fun hc => ?_) (fun hc => ?_))
 all_goals first
   | (exfalso; simp at hc; done)
   | skip
 refine ⟨?_⟩
 repeat' (first | refine HV_ 15 ?_ | refine ae hG hst (hto) ?_ | ((with_reducible apply aaO); rfl; kernel_rfl; exact hG; exact hst; exact heq; ((with_reducible apply bI.cons); rfl; exact hvw hy fun o h => List.mem_cons_of_mem _ (List.mem_cons_of_mem _ (List.mem_cons_of_mem _ (List.mem_append_right _ (List.mem_append_left _ h))))); (repeat (first | exact bI.nil | ((with_reducible apply bI.cons); rfl; exact bR.same _)))))
 all_goals first
   | (exfalso; simp at hc; done)
   | skip
 refine ⟨?_⟩
 repeat' refine W_ ?_
 refine i6 (.perm (xx _ _ _ _ (imO x y) _)) ?_
 repeat' (first | refine HV_ 18 ?_ | ((with_reducible apply aJ); rfl; kernel_rfl; (repeat (first | exact aH.nil | ((with_reducible apply aH.cons); rfl))); exact hG; exact hl1; exact .app _ _; rintro ⟨⟩ -; refine cm (.perm (xx _ _ _ _ _ _).symm) ?_) | ((with_reducible apply fS); rfl; kernel_rfl; exact hG; exact hst; exact hqs; ((with_reducible apply bI.cons); rfl; exact hvs hyi fun o h => List.mem_cons_of_mem _ (List.mem_cons_of_mem _ (List.mem_cons_of_mem _ (List.mem_append_left _ h)))); ((with_reducible apply bI.cons); rfl; exact hvs hys fun o h => List.mem_cons_of_mem _ (List.mem_cons_of_mem _ (List.mem_cons_of_mem _ (List.mem_append_right _ (List.mem_append_right _ (List.mem_append_left _ h)))))); exact .nil) | refine c_ (fun hc => ?_) (fun hc => ?_))
 all_goals first
   | (exfalso; simp at hc; done)
   | skip
 refine ⟨?_⟩
 have hl2 := fL hst sx yi hyi hsm 1 (by omega)
 unfold imC at hl2
 repeat' refine W_ ?_
 refine i6 (.perm (xy _ _ _ (imO sx yi) _)) ?_
 repeat' (first | refine H_ 20 ?_ | ((with_reducible apply aJ); rfl; kernel_rfl; (repeat (first | exact aH.nil | ((with_reducible apply aH.cons); rfl))); exact hG; exact hl2; exact .app _ _; rintro ⟨⟩ -; refine cm (.perm (xy _ _ _ _ _).symm) ?_))
 refine ⟨?_⟩
 have hhd := n9 hst 0 sx hsm 1 (by omega)
 have hkS := jt (x := sx) hsm 1
 have hvm : ∀ {objs : aI}, (∀ o ∈ imO (ez 1 sx) yi, o ∈ objs) -> bR objs (.agg (imC sx yi)) (.agg ((ez 1 sx).tw 0)) := fun h => wQ hyi h
 unfold imC at hvm
 generalize iE 1 sx = kq at hhd hkS |-
 repeat' (first | refine H_ 26 ?_ | ((with_reducible apply fS); rfl; kernel_rfl; exact hG; exact hst; exact hhd; ((with_reducible apply bI.cons); rfl; exact hvm fun o h => List.mem_cons_of_mem _ (List.mem_cons_of_mem _ (List.mem_cons_of_mem _ (List.mem_append_left _ h)))); ((with_reducible apply bI.cons); rfl; exact bR.same _); exact bI.nil))
 all_goals first
   | (exfalso; simp at hc; done)
   | skip
 refine ⟨?_⟩
 repeat' (first | refine H_ 27 ?_ | (refine ai ?_; intro ss bb) | refine ac ?_ | refine ab hG hst (hto) ?_ | ((with_reducible apply eQ); rfl; kernel_rfl; exact hG; exact hst; exact him2; ((repeat (first | exact bI.nil | ((with_reducible apply bI.cons); rfl; (first | with_reducible exact bR.same _ | ((with_reducible apply bR.msAll); (repeat (first | with_reducible exact mh | with_reducible refine mt ?_)); (first | with_reducible assumption | exact aG _ | exact am _ | exact aF _ | exact List.length_map _ | assumption | rfl)) | ((with_reducible apply du); (repeat (first | with_reducible exact mh | with_reducible refine mt ?_)); (first | with_reducible assumption | exact aG _ | exact am _ | exact aF _ | exact List.length_map _ | assumption | rfl)) | ((with_reducible apply bR.cut); exact bR.cp0 _ _; rfl)))))); exact hnew; intro yj hyj))
 refine ⟨?_⟩
 generalize ss = s9; generalize bb = b9
 refine dg (uz _ _ _ _ _ _) ?_
 repeat' (first | refine HV_ 30 ?_ | ((with_reducible apply fS); rfl; kernel_rfl; exact hG; exact hst; exact hqs; ((with_reducible apply bI.cons); rfl; exact hvs hyj fun o h => List.mem_cons_of_mem _ (List.mem_cons_of_mem _ (List.mem_cons_of_mem _ (List.mem_cons_of_mem _ (List.mem_append_left _ h))))); ((with_reducible apply bI.cons); rfl; exact hvs hys fun o h => List.mem_cons_of_mem _ (List.mem_cons_of_mem _ (List.mem_cons_of_mem _ (List.mem_cons_of_mem _ (List.mem_append_right _ (List.mem_append_right _ (List.mem_append_right _ (List.mem_append_left _ h)))))))); exact .nil) | refine c_ (fun hc => ?_) (fun hc => ?_))
 all_goals first
   | (exfalso; simp at hc; done)
   | skip
 refine ⟨?_⟩
 repeat' (first | refine W_ ?_ | ((with_reducible apply fS); rfl; kernel_rfl; exact hG; exact hst; exact hhd; ((with_reducible apply bI.cons); rfl; exact hvm fun o h => List.mem_cons_of_mem _ (List.mem_cons_of_mem _ (List.mem_cons_of_mem _ (List.mem_cons_of_mem _ (List.mem_append_right _ (List.mem_append_left _ h)))))); ((with_reducible apply bI.cons); rfl; exact bR.same _); exact bI.nil))
 all_goals first
   | (exact r1_)
   | (exfalso; simp at hc; done)
theorem eK (w : World) (t : PT) (x : ak) (hat : fm t x) (hsee : ed w (· < w.heap.size) t) (hx : x.sane) (q0 : Int) (_ : i64 q0) (q1 : Bool) (q2 : ByteArray) (_ : q2.size <= maxLen) (hm : si w) : Calls Tryz.prog 8 #[.agg t.cells.toArray, .int .i64 q0, .bool q1, .string q2] w fun e w' => e = .returned (.bool true) /\ Below w.heap.size w w' := by
 have h0 : 0 < w.heap.size := by
   obtain ⟨m, hm⟩ := hm
   have := World.block_lt_of_cell? w _ hm
   omega
 have hok := abO w _ _ hsee
 have hsm := oK hat hsee hx
 rw [ue hat] at hok
 refine (iQ x hsm q0 q1 q2 w _ h0 hm rfl ?_).mono ?_
 ·intro i t v h1 h2
  match i, h1, h2 with
  | 0, h1, h2 =>
    cases h1; cases h2
    exact .agg _ _ hok.2.1 (by simpa using hok.1) (fun i t v ht hv => hok.2.2 i t v ht (by simpa using hv))
  | 1, h1, h2 =>
    cases h1; cases h2
    first
      | exact .int _
      | exact .int _ _
      | exact .int
      | constructor
  | 2, h1, h2 =>
    cases h1; cases h2
    first
      | exact .bool _
      | exact .int _ _
      | exact .int
      | constructor
  | 3, h1, h2 =>
    cases h1; cases h2
    first
      | exact .str _
      | exact .int _ _
      | exact .int
      | constructor
 ·rintro e w' ⟨v, rfl, hb, hr⟩
  have := (hr 0 (Nat.zero_le _)).bool_inv
  subst this
  exact ⟨rfl, hb⟩
end Go.Proofs.YtiihihgjiklnoaaGreatDoor
