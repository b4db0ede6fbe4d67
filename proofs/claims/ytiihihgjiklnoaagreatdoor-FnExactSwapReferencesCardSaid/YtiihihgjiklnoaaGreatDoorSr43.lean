/- Part 43 of the proof: the texts SwB, SrB. -/
import Derived.Test.YtiihihgjiklnoaaGreatDoorSr42
import Derived.Test.YtiihihgjiklnoaaGreatDoorSr41
import Derived.Test.YtiihihgjiklnoaaGreatDoorSr40
import Derived.Test.YtiihihgjiklnoaaGreatDoorSr3
set_option linter.all false
set_option maxHeartbeats 4000000
set_option maxRecDepth 20000
namespace Go.Proofs.YtiihihgjiklnoaaGreatDoor
open Go Go.RowKit
theorem adR {m : ao} {i j : Int} (h : ch m i j = true) : eI m = true /\ ∃ a b : Nat, i = a /\ j = b /\ a < m.store.objects.length /\ b < m.store.objects.length /\ lN m i j = afI m a b := by
 have h0 := h
 unfold ch at h
 simp only [Bool.and_eq_true] at h
 obtain ⟨h1, h2, h3⟩ := h
 have h2 : 0 <= i /\ i <= (m.store.objects.length : Int) - 1 := of_decide_eq_true h2
 have h3 : 0 <= j /\ j <= (m.store.objects.length : Int) - 1 := of_decide_eq_true h3
 refine ⟨h1, i.toNat, j.toNat, by omega, by omega, by omega, by omega, ?_⟩
 unfold lN
 rw [if_pos h0]; rfl
theorem rb (lo : Nat) (m : ao) (hsm : m.small 1048576) (i j : Int) : Ct Tryz.prog GL 102 [.agg (m.tw lo), .int .i64 i, .int .i64 j] (fun _ => .bool (ch m i j)) := by
 refine aq Tryz.func102 rfl Tryz.ntmps102 rfl rfl fun w0 _ hG => ?_
 have hst := dJ
 have hct := oT lo m hsm
 have hol := au.len lo m.store.objects
 have ho1 := hsm.2.1.2.1.1
 have k1 := aN (G := GL) i 0 ((m.store.objects.length : Int) - 1)
 have k2 := aN (G := GL) j 0 ((m.store.objects.length : Int) - 1)
 unfold ch
 generalize eI m = V at hct |-
 generalize inR i 0 ((m.store.objects.length : Int) - 1) = b1 at k1 |-
 generalize inR j 0 ((m.store.objects.length : Int) - 1) = b2 at k2 |-
 unfold ao.tw at hct |-
 by_cases hz : 1 <= m.store.objects.length
 ·rw [show (m.store.objects.length : Int) - 1 = ((m.store.objects.length - 1 : Nat) : Int) by omega] at k1 k2
  cases V <;> cases b1 <;> cases b2
  all_goals
    repeat' (first | refine W_ ?_ | refine aM ?_ | refine ad hG hst (hct) ?_ | refine ad hG hst (k1) ?_ | refine ad hG hst (k2) ?_)
    exact r1_
 ·cases V <;> cases b1 <;> cases b2
  all_goals
    repeat' (first | refine W_ ?_ | refine aM ?_ | refine ad hG hst (hct) ?_ | refine ad hG hst (k1) ?_ | refine ad hG hst (k2) ?_)
    exact r1_
theorem xZ (f lo : Nat) (m : ao) (hsm : m.small 1048576) (i j : Int) : Ct Tryz.prog GL 99 [.cp f (m.tw lo), .int .i64 i, .int .i64 j] (fun _ => .bool (ch m i j)) := by
 refine aq Tryz.func99 rfl Tryz.ntmps99 rfl rfl fun w0 _ hG => ?_
 have hst := dJ
 have hct := rO f lo m hsm
 have hol := au.len lo m.store.objects
 have ho1 := hsm.2.1.2.1.1
 have k1 := bu (G := GL) i 0 ((m.store.objects.length : Int) - 1)
 have k2 := bu (G := GL) j 0 ((m.store.objects.length : Int) - 1)
 unfold ch
 generalize eI m = V at hct |-
 generalize inR i 0 ((m.store.objects.length : Int) - 1) = b1 at k1 |-
 generalize inR j 0 ((m.store.objects.length : Int) - 1) = b2 at k2 |-
 unfold ao.tw at hct |-
 by_cases hz : 1 <= m.store.objects.length
 ·rw [show (m.store.objects.length : Int) - 1 = ((m.store.objects.length - 1 : Nat) : Int) by omega] at k1 k2
  cases V <;> cases b1 <;> cases b2
  all_goals
    repeat' (first | refine W_ ?_ | refine ad hG hst (hct) ?_ | refine ad hG hst (k1) ?_ | refine ad hG hst (k2) ?_)
    exact r1_
 ·cases V <;> cases b1 <;> cases b2
  all_goals
    repeat' (first | refine W_ ?_ | refine ad hG hst (hct) ?_ | refine ad hG hst (k1) ?_ | refine ad hG hst (k2) ?_)
    exact r1_
noncomputable def aT (m : ao) (i j : Int) : ao := if ch m i j = true then exI m i j else zIm
noncomputable def dD (m : ao) (i j : Int) : Bool := ch m i j
theorem jf {m : ao} (hb : m.small 1048576) (i j : Int) : (aT m i j).small 1048576 := by
 unfold aT
 split
 ·exact yY hb i j
 ·exact aaU _
theorem xB (a b c d e : Nat × Nat × aW) {R : aG} : (b :: d :: a :: c :: e :: R).Perm (a :: b :: c :: d :: e :: R) := by
 have h := dg (n := 6) [[a], [b], [c], [d], [e], R] [1, 3, 0, 2, 4, 5] rfl (by decide)
 simpa using h
theorem xo (a b c : Nat × Nat × aW) {R : aG} : (c :: a :: b :: R).Perm (a :: b :: c :: R) := by
 have h := dg (n := 4) [[a], [b], [c], R] [2, 0, 1, 3] rfl (by decide)
 simpa using h
theorem acu (a b c d e : Nat × Nat × aW) {R : aG} : (b :: e :: a :: c :: d :: R).Perm (a :: b :: c :: d :: e :: R) := by
 have h := dg (n := 6) [[a], [b], [c], [d], [e], R] [1, 4, 0, 2, 3, 5] rfl (by decide)
 simpa using h
theorem acf (a b c d e f : Nat × Nat × aW) {R : aG} : (b :: f :: a :: c :: d :: e :: R).Perm (a :: b :: c :: d :: e :: f :: R) := by
 have h := dg (n := 7) [[a], [b], [c], [d], [e], [f], R] [1, 5, 0, 2, 3, 4, 6] rfl (by decide)
 simpa using h
theorem eN (lo : Nat) (m : ao) (hsm : m.small 1048576) (i j : Int) : CtM Tryz.prog GL 40 [.agg (m.tw lo), .int .i64 i, .int .i64 j] [] (imI (aT m i j)) (imO (aT m i j)) (fun y => .tup [.agg (imC (aT m i j) y), .bool (dD m i j)]) := by
 refine aw Tryz.func40 rfl Tryz.ntmps40 rfl rfl rfl fun w0 R gs objsR hG hR => ?_
 obtain rfl := hR.inv0
 clear hR
 have hst := dJ
 have hto := rb lo m hsm i j
 have hcp := lp hst lo m hsm
 unfold dD
 cases hB : ch m i j with
 | false =>
   have hI : aT m i j = zIm := by unfold aT; rw [if_neg (by rw [hB]; simp)]
   rw [hI]
   rw [hB] at hto
   unfold ao.tw at hto |-
   repeat' (first | refine W_ ?_ | refine aM ?_ | (refine am ?_; intro ss bb) | refine ic ?_ | refine ac ?_ | refine ad hG hst (hto) ?_)
   refine zN fun y hy => ?_
   exact cK (t1 := .agg (imC zIm y)) (t2 := .bool false) x_ rfl y hy rfl (.app _ R) (.drop (.refl _)) (.cell _ _ _ _ _ rfl mm_ (by kernel_rfl) (by kernel_rfl) (by kernel_rfl)) (.tmp _ _ rfl) rfl
 | true =>
   have hI : aT m i j = exI m i j := by unfold aT; rw [if_pos hB]
   rw [hI]
   rw [hB] at hto
   unfold ao.tw at hto hcp |-
   have ho1 := hsm.2.1.2.1.1
   have hb1 := hsm.2.2.1.1
   have hc1 := hsm.2.2.2.1.1
   repeat' (first | refine H_ 4 ?_ | refine aM ?_ | (refine am ?_; intro ss bb) | refine ac ?_ | refine ad hG hst (hto) ?_ | ((with_reducible apply aJ); rfl; kernel_rfl; (repeat (first | exact aH.nil | ((with_reducible apply aH.cons); rfl))); exact hG; exact hcp; exact .nil _; intro y hy))
   refine ⟨?_⟩
   rename_i s6 b6
   generalize ss = s8; generalize bb = b8
   repeat' (first | refine H_ 6 ?_ | (refine am ?_; intro ss bb) | refine ac ?_ | refine lJ ?_)
   refine ⟨?_⟩
   generalize ss = s9; generalize bb = b9
   obtain ⟨hcb, ⟨hpc, hpo⟩, hpx⟩ := id hy
   have hpm := kv m m.store.objects m.blocks m.contexts m.value y
   rw [t7] at hpm
   obtain ⟨T, hT⟩ : ∃ T : aG, T = uw m y ++ ((s6, b6, .box ao.tz) :: R) := ⟨_, rfl⟩
   have hR1 : ∀ x : Nat × Nat × aW, (imO m y ++ (x :: R)) = imO m y ++ (x :: R) := fun _ => rfl
   refine bH (objs' := (s8, b8, .box (imC m y)) :: (s9, b9, .box [.fn 108 [.cp w0.heap.size [.int .i64 i], .cp w0.heap.size [.int .i64 j]]]) :: (y.2.1.2.1.1.1, y.2.1.2.1.1.2, .row 4 (nRg cz (de (exO i j) m.store.objects 0) y.2.1.2.1.2)) :: (nOg cR (de (exO i j) m.store.objects 0) y.2.1.2.1.2 ++ ((y.2.2.1.1, y.2.2.1.2, .row 6 (m.blocks.map (aj.tw 0))) :: (nf m.contexts y.2.2.2.1 ++ T)))) (.perm ?_) ?_
   ·rw [fF, hT]
    refine (List.Perm.swap _ _ _).trans (.cons _ (.cons _ ?_))
    have := (hpm.symm).append_right ((s6, b6, aW.box ao.tz) :: R)
    refine List.Perm.trans ?_ this
    simp [pu]
   rw [cm m y]
   -- the objects
   generalize hG1 : ((y.2.2.1.1, y.2.2.1.2, aW.row 6 (m.blocks.map (aj.tw 0))) :: (nf m.contexts y.2.2.2.1 ++ T) : aG) = G1
   repeat' refine W_ ?_
   apply ak (X := Nat) [6, 8, 9, 10, 28, 1000000] (fun q => [(29, .int .i64 (q : Int))])
     (fun q => (s8, b8, .box (imC m y)) :: (s9, b9, .box [.fn 108 [.cp w0.heap.size [.int .i64 i], .cp w0.heap.size [.int .i64 j]]]) :: (y.2.1.2.1.1.1, y.2.1.2.1.1.2, .row 4 (nRg cz (de (exO i j) m.store.objects q) y.2.1.2.1.2)) :: (nOg cR (de (exO i j) m.store.objects q) y.2.1.2.1.2 ++ G1))
     (fun q => q <= m.store.objects.length) (fun q => m.store.objects.length - q) 0 (Nat.zero_le _)
   exact kp_; exact nw_
   ·exact .refl _
   intro q hq
   try dsimp only
   rw [cm m y]
   by_cases hlt : q < m.store.objects.length
   ·obtain ⟨p, E, h1, h2, h3, h4⟩ := q9 cz cR (exO i j) m.store.objects y.2.1.2.1.2 hpo hlt
    have hsm1 := (hsm.2.1.2.1.2 _ (List.getElem_mem hlt)).1.1
    have hrl : (nRg cz (de (exO i j) m.store.objects q) y.2.1.2.1.2).length = m.store.objects.length := by rw [fw _ (by rw [dp]; exact hpo), dp]
    generalize m.store.objects[q] = o at h1 h2 h3 h4 hsm1
    have he : cz (exO i j o) p = cz o p := by simp [cz, exO]
    rw [he, mJ h1] at h2
    obtain ⟨r2, hr2⟩ : ∃ r, r = nOg cR (de (exO i j) m.store.objects (q + 1)) y.2.1.2.1.2 := ⟨_, rfl⟩
    rw [<- hr2] at h4
    generalize nRg cz (de (exO i j) m.store.objects q) y.2.1.2.1.2 = rows at h1 h2 hrl |-
    unfold cz at h1
    generalize nOg cR (de (exO i j) m.store.objects q) y.2.1.2.1.2 = r1 at h3 |-
    refine bH (objs' := (s8, b8, .box (imC m y)) :: (s9, b9, .box [.fn 108 [.cp w0.heap.size [.int .i64 i], .cp w0.heap.size [.int .i64 j]]]) :: (y.2.1.2.1.1.1, y.2.1.2.1.1.2, .row 4 rows) :: (p.1.1, p.1.2, .row 3 (o.fields.map (ab.tw 0))) :: (p.2.1, p.2.2, .row 1 (aS o.numbers)) :: (E ++ G1)) (.perm (.cons _ (.cons _ (.cons _ (by simpa [cR] using (h3.symm).append_right G1))))) ?_
    rw [cm m y]
    have hct := acb hst w0.heap.size w0.heap.size s9 b9 p.1.1 p.1.2 i j o.fields hsm1
    repeat' refine W_ ?_
    refine eY (objs' := (s9, b9, .box [.fn 108 [.cp w0.heap.size [.int .i64 i], .cp w0.heap.size [.int .i64 j]]]) :: (p.1.1, p.1.2, .row 3 (o.fields.map (ab.tw 0))) :: (s8, b8, .box (imC m y)) :: (y.2.1.2.1.1.1, y.2.1.2.1.1.2, .row 4 rows) :: (p.2.1, p.2.2, .row 1 (aS o.numbers)) :: (E ++ G1)) (.perm (xB _ _ _ _ _)) ?_
    rw [cm m y]
    repeat' (first | refine W_ ?_ | ((with_reducible apply gx); rfl; rfl; kernel_rfl; (repeat (first | exact aH.nil | ((with_reducible apply aH.cons); rfl))); rfl; exact hG; exact hct; exact .cons _ _ _ _ (.cons _ _ _ _ (.nil _)); rintro ⟨⟩ -; refine bY (objs' := (s8, b8, .box (imC m y)) :: (s9, b9, .box [.fn 108 [.cp w0.heap.size [.int .i64 i], .cp w0.heap.size [.int .i64 j]]]) :: (y.2.1.2.1.1.1, y.2.1.2.1.1.2, .row 4 rows) :: (p.1.1, p.1.2, .row 3 ((o.fields.map (exV i j)).map (ab.tw 0))) :: (p.2.1, p.2.2, .row 1 (aS o.numbers)) :: (E ++ G1)) (.perm (xB _ _ _ _ _).symm) ?_; rw [cm m y]))
    refine ag (q + 1) (by omega) (by omega) (.of _ nw_ od_ (.perm ?_))
    rw [h2, <- hr2]
    exact .cons _ (.cons _ (.cons _ (by simpa [cR, exO] using h4.append_right G1)))
   obtain rfl : q = m.store.objects.length := by omega
   rw [gW]
   subst hG1
   -- the closures
   obtain ⟨G2, hG2⟩ : ∃ G2 : aG, G2 = pu (m.store.objects.map (exO i j)) y.2.1.2.1 ++ (nf m.contexts y.2.2.2.1 ++ T) := ⟨_, rfl⟩
   refine bH (objs' := (s8, b8, .box (imC m y)) :: (s9, b9, .box [.fn 108 [.cp w0.heap.size [.int .i64 i], .cp w0.heap.size [.int .i64 j]]]) :: (y.2.2.1.1, y.2.2.1.2, .row 6 ((de (exB i j) m.blocks 0).map (aj.tw 0))) :: G2) (.perm ?_) ?_
   ·rw [fF, hG2]
    refine .cons _ (.cons _ ?_)
    simpa [pu] using (List.perm_middle (l₁ := pu (m.store.objects.map (exO i j)) y.2.1.2.1) (l₂ := nf m.contexts y.2.2.2.1 ++ T) (a := (y.2.2.1.1, y.2.2.1.2, aW.row 6 (m.blocks.map (aj.tw 0))))).symm
   rw [cm m y]
   have hbl0 : (m.blocks.map (aj.tw 0)).length = m.blocks.length := List.length_map _
   repeat' refine W_ ?_
   apply ak (X := Nat) [6, 8, 9, 10, 44, 1000000] (fun q => [(45, .int .i64 (q : Int))])
     (fun q => (s8, b8, .box (imC m y)) :: (s9, b9, .box [.fn 108 [.cp w0.heap.size [.int .i64 i], .cp w0.heap.size [.int .i64 j]]]) :: (y.2.2.1.1, y.2.2.1.2, .row 6 ((de (exB i j) m.blocks q).map (aj.tw 0))) :: G2)
     (fun q => q <= m.blocks.length) (fun q => m.blocks.length - q) 0 (Nat.zero_le _)
   exact kp_; exact nw_
   ·exact .refl _
   intro q hq
   try dsimp only
   rw [cm m y]
   by_cases hlt : q < m.blocks.length
   ·have hrl : ((de (exB i j) m.blocks q).map (aj.tw 0)).length = m.blocks.length := by rw [List.length_map, dp]
    have hrow : ((de (exB i j) m.blocks q).map (aj.tw 0))[q]? = some [.int .i64 m.blocks[q].code, .int .i64 m.blocks[q].outer, .int .i64 m.blocks[q].home, .int .i64 m.blocks[q].self.kind, .int .i64 m.blocks[q].self.number, .str m.blocks[q].self.text] := by
      rw [List.getElem?_map, ka _ hlt]; rfl
    have hset : ((de (exB i j) m.blocks q).map (aj.tw 0)).set q [.int .i64 m.blocks[q].code, .int .i64 m.blocks[q].outer, .int .i64 m.blocks[q].home, .int .i64 m.blocks[q].self.kind, .int .i64 (exN i j m.blocks[q].self.kind m.blocks[q].self.number), .str m.blocks[q].self.text] = (de (exB i j) m.blocks (q + 1)).map (aj.tw 0) := by
      rw [<- kj _ hlt, List.map_set]; rfl
    have hct := adD hst w0.heap.size w0.heap.size y.2.2.1.1 y.2.2.1.2 q i j _ _ _ _ _ _ _ hrow
    rw [hset] at hct
    obtain ⟨rows2, hr2⟩ : ∃ r, r = (de (exB i j) m.blocks (q + 1)).map (aj.tw 0) := ⟨_, rfl⟩
    rw [<- hr2] at hct
    generalize (de (exB i j) m.blocks q).map (aj.tw 0) = rows at hrow hrl hct |-
    generalize m.blocks[q] = b at hrow hct
    repeat' (first | refine W_ ?_ | ((with_reducible apply gq (id := 14) 6); kernel_rfl; kernel_rfl; kernel_rfl; (repeat (first | exact Cut.zero _ | apply Cut.succ))) | with_reducible refine fW (by kernel_rfl) (by kernel_rfl) ?_ | with_reducible refine iV ?_ | with_reducible refine f6 ?_ | with_reducible refine fU rfl ?_ | refine i5 rfl rfl rfl rr_ ?_ | refine fT rfl rfl rfl rr_ rfl rfl rfl ?_ | refine ep rfl rfl rfl rr_ rfl rfl ?_ | (refine oy rfl rfl rfl rr_ dd_ ?_) | (refine ox rfl rfl rfl rr_ dd_ ?_) | (refine dq rfl rfl rfl rr_ (fun hg => ?_) (fun hg => ?_)) | (refine cT rfl rfl rfl rr_ (fun hg => ?_) (fun hg => ?_)) | ((with_reducible apply d_y); exact y_; rfl))
    refine eY (objs' := (y.2.2.1.1, y.2.2.1.2, .row 6 rows) :: (s8, b8, .box (imC m y)) :: (s9, b9, .box [.fn 108 [.cp w0.heap.size [.int .i64 i], .cp w0.heap.size [.int .i64 j]]]) :: G2) (.perm (xo _ _ _)) ?_
    rw [cm m y]
    repeat' (first | refine W_ ?_ | ((with_reducible apply gx); rfl; rfl; kernel_rfl; (repeat (first | exact aH.nil | ((with_reducible apply aH.cons); rfl))); rfl; exact hG; exact hct; exact .cons _ _ _ _ (.nil _); rintro ⟨⟩ -; refine bY (objs' := (s8, b8, .box (imC m y)) :: (s9, b9, .box [.fn 108 [.cp w0.heap.size [.int .i64 i], .cp w0.heap.size [.int .i64 j]]]) :: (y.2.2.1.1, y.2.2.1.2, .row 6 rows2) :: G2) (.perm (xo _ _ _).symm) ?_; rw [cm m y]))
    exact ag (q + 1) (by omega) (by omega) (.of _ nw_ od_ (gy (by rw [hr2])))
   obtain rfl : q = m.blocks.length := by omega
   rw [gW, hG2]
   clear hG2
   -- the contexts
   obtain ⟨G3, hG3⟩ : ∃ G3 : aG, G3 = (y.2.2.1.1, y.2.2.1.2, aW.row 6 ((m.blocks.map (exB i j)).map (aj.tw 0))) :: (pu (m.store.objects.map (exO i j)) y.2.1.2.1 ++ T) := ⟨_, rfl⟩
   refine bH (objs' := (s8, b8, .box (imC m y)) :: (s9, b9, .box [.fn 108 [.cp w0.heap.size [.int .i64 i], .cp w0.heap.size [.int .i64 j]]]) :: (y.2.2.2.1.1.1, y.2.2.2.1.1.2, .row 14 (nRg cn (de (exC i j) m.contexts 0) y.2.2.2.1.2)) :: (nOg cH (de (exC i j) m.contexts 0) y.2.2.2.1.2 ++ G3)) (.perm ?_) ?_
   ·rw [fF, hG3]
    refine .cons _ (.cons _ ?_)
    have h := dg (n := 4) [[(y.2.2.1.1, y.2.2.1.2, aW.row 6 ((m.blocks.map (exB i j)).map (aj.tw 0)))], pu (m.store.objects.map (exO i j)) y.2.1.2.1, nf m.contexts y.2.2.2.1, T] [2, 0, 1, 3] rfl (by decide)
    simpa [nf] using h
   rw [cm m y]
   have hcl0 : (nRg cn (de (exC i j) m.contexts 0) y.2.2.2.1.2).length = m.contexts.length := by rw [fw _ (by rw [dp]; exact hpx), dp]
   repeat' refine W_ ?_
   apply ak (X := Nat) [6, 8, 9, 10, 58, 1000000] (fun q => [(59, .int .i64 (q : Int))])
     (fun q => (s8, b8, .box (imC m y)) :: (s9, b9, .box [.fn 108 [.cp w0.heap.size [.int .i64 i], .cp w0.heap.size [.int .i64 j]]]) :: (y.2.2.2.1.1.1, y.2.2.2.1.1.2, .row 14 (nRg cn (de (exC i j) m.contexts q) y.2.2.2.1.2)) :: (nOg cH (de (exC i j) m.contexts q) y.2.2.2.1.2 ++ G3))
     (fun q => q <= m.contexts.length) (fun q => m.contexts.length - q) 0 (Nat.zero_le _)
   exact kp_; exact nw_
   ·exact .refl _
   intro q hq
   try dsimp only
   rw [cm m y]
   by_cases hlt : q < m.contexts.length
   ·obtain ⟨p, E, h1, h2, h3, h4⟩ := q9 cn cH (exC i j) m.contexts y.2.2.2.1.2 hpx hlt
    obtain ⟨_, ⟨zs, _⟩, ⟨zk, _⟩, zv, _⟩ := hsm.2.2.2.1.2 _ (List.getElem_mem hlt)
    have hrl : (nRg cn (de (exC i j) m.contexts q) y.2.2.2.1.2).length = m.contexts.length := by rw [fw _ (by rw [dp]; exact hpx), dp]
    generalize m.contexts[q] = c at h1 h2 h3 h4 zs zk zv
    obtain ⟨r2, hr2⟩ : ∃ r, r = nOg cH (de (exC i j) m.contexts (q + 1)) y.2.2.2.1.2 := ⟨_, rfl⟩
    obtain ⟨w2, hw2⟩ : ∃ r, r = nRg cn (de (exC i j) m.contexts (q + 1)) y.2.2.2.1.2 := ⟨_, rfl⟩
    rw [<- hr2] at h4
    rw [<- hw2] at h2
    have he : cn (exC i j c) p = [.int .i64 c.mark, .int .i64 c.code, .int .i64 c.pc, .int .i64 c.sender, .int .i64 c.outer, .int .i64 c.home, .int .i64 c.self.kind, .int .i64 (exN i j c.self.kind c.self.number), .str c.self.text, .ms p.1.1 p.1.2 0 c.slots.length, .ms p.2.1.1 p.2.1.2 0 c.stack.length, .ms p.2.2.1 p.2.2.2 0 c.values.length, .int .i64 c.other, .bool c.retry] := by simp [cn, exC, exV]
    rw [he] at h2
    generalize nRg cn (de (exC i j) m.contexts q) y.2.2.2.1.2 = rows at h1 h2 hrl |-
    unfold cn at h1
    generalize nOg cH (de (exC i j) m.contexts q) y.2.2.2.1.2 = r1 at h3 |-
    have hct := acP hst w0.heap.size w0.heap.size y.2.2.2.1.1.1 y.2.2.2.1.1.2 q i j rows _ _ _ _ _ _ _ _ _ _ _ _ _ _ h1
    rw [<- h2] at hct
    have hrow2 : w2[q]? = some [.int .i64 c.mark, .int .i64 c.code, .int .i64 c.pc, .int .i64 c.sender, .int .i64 c.outer, .int .i64 c.home, .int .i64 c.self.kind, .int .i64 (exN i j c.self.kind c.self.number), .str c.self.text, .ms p.1.1 p.1.2 0 c.slots.length, .ms p.2.1.1 p.2.1.2 0 c.stack.length, .ms p.2.2.1 p.2.2.2 0 c.values.length, .int .i64 c.other, .bool c.retry] := by rw [h2, List.getElem?_set_self (by rw [hrl]; exact hlt)]
    have hrl2 : w2.length = m.contexts.length := by rw [h2, List.length_set, hrl]
    have ct1 := acb hst w0.heap.size w0.heap.size s9 b9 p.1.1 p.1.2 i j c.slots zs
    have ct2 := acb hst w0.heap.size w0.heap.size s9 b9 p.2.1.1 p.2.1.2 i j c.stack zk
    have ct3 := acb hst w0.heap.size w0.heap.size s9 b9 p.2.2.1 p.2.2.2 i j c.values zv
    refine bH (objs' := (s8, b8, .box (imC m y)) :: (s9, b9, .box [.fn 108 [.cp w0.heap.size [.int .i64 i], .cp w0.heap.size [.int .i64 j]]]) :: (y.2.2.2.1.1.1, y.2.2.2.1.1.2, .row 14 rows) :: (p.1.1, p.1.2, .row 3 (c.slots.map (ab.tw 0))) :: (p.2.1.1, p.2.1.2, .row 3 (c.stack.map (ab.tw 0))) :: (p.2.2.1, p.2.2.2, .row 3 (c.values.map (ab.tw 0))) :: (E ++ G3)) (.perm (.cons _ (.cons _ (.cons _ (by simpa [cH] using (h3.symm).append_right G3))))) ?_
    rw [cm m y]
    repeat' (first | refine W_ ?_ | ((with_reducible apply gq (id := 20) 4); kernel_rfl; kernel_rfl; kernel_rfl; (repeat (first | exact Cut.zero _ | apply Cut.succ))) | with_reducible refine fW (by kernel_rfl) (by kernel_rfl) ?_ | with_reducible refine iV ?_ | with_reducible refine f6 ?_ | with_reducible refine fU rfl ?_ | refine i5 rfl rfl rfl rr_ ?_ | refine fT rfl rfl rfl rr_ rfl rfl rfl ?_ | refine ep rfl rfl rfl rr_ rfl rfl ?_ | (refine oy rfl rfl rfl rr_ dd_ ?_) | (refine ox rfl rfl rfl rr_ dd_ ?_) | (refine dq rfl rfl rfl rr_ (fun hg => ?_) (fun hg => ?_)) | (refine cT rfl rfl rfl rr_ (fun hg => ?_) (fun hg => ?_)) | ((with_reducible apply d_y); exact y_; rfl))
    refine eY (objs' := (y.2.2.2.1.1.1, y.2.2.2.1.1.2, .row 14 rows) :: (s8, b8, .box (imC m y)) :: (s9, b9, .box [.fn 108 [.cp w0.heap.size [.int .i64 i], .cp w0.heap.size [.int .i64 j]]]) :: (p.1.1, p.1.2, .row 3 (c.slots.map (ab.tw 0))) :: (p.2.1.1, p.2.1.2, .row 3 (c.stack.map (ab.tw 0))) :: (p.2.2.1, p.2.2.2, .row 3 (c.values.map (ab.tw 0))) :: (E ++ G3)) (.perm (xo _ _ _)) ?_
    rw [cm m y]
    repeat' (first | refine W_ ?_ | ((with_reducible apply gx); rfl; rfl; kernel_rfl; (repeat (first | exact aH.nil | ((with_reducible apply aH.cons); rfl))); rfl; exact hG; exact hct; exact .cons _ _ _ _ (.nil _); rintro ⟨⟩ -; refine bY (objs' := (s8, b8, .box (imC m y)) :: (s9, b9, .box [.fn 108 [.cp w0.heap.size [.int .i64 i], .cp w0.heap.size [.int .i64 j]]]) :: (y.2.2.2.1.1.1, y.2.2.2.1.1.2, .row 14 w2) :: (p.1.1, p.1.2, .row 3 (c.slots.map (ab.tw 0))) :: (p.2.1.1, p.2.1.2, .row 3 (c.stack.map (ab.tw 0))) :: (p.2.2.1, p.2.2.2, .row 3 (c.values.map (ab.tw 0))) :: (E ++ G3)) (.perm (xo _ _ _).symm) ?_; rw [cm m y]))
    refine eY (objs' := (s9, b9, .box [.fn 108 [.cp w0.heap.size [.int .i64 i], .cp w0.heap.size [.int .i64 j]]]) :: (p.1.1, p.1.2, .row 3 (c.slots.map (ab.tw 0))) :: (s8, b8, .box (imC m y)) :: (y.2.2.2.1.1.1, y.2.2.2.1.1.2, .row 14 w2) :: (p.2.1.1, p.2.1.2, .row 3 (c.stack.map (ab.tw 0))) :: (p.2.2.1, p.2.2.2, .row 3 (c.values.map (ab.tw 0))) :: (E ++ G3)) (.perm (xB _ _ _ _ _)) ?_
    rw [cm m y]
    repeat' (first | refine W_ ?_ | ((with_reducible apply gx); rfl; rfl; kernel_rfl; (repeat (first | exact aH.nil | ((with_reducible apply aH.cons); rfl))); rfl; exact hG; exact ct1; exact .cons _ _ _ _ (.cons _ _ _ _ (.nil _)); rintro ⟨⟩ -; refine bY (objs' := (s8, b8, .box (imC m y)) :: (s9, b9, .box [.fn 108 [.cp w0.heap.size [.int .i64 i], .cp w0.heap.size [.int .i64 j]]]) :: (y.2.2.2.1.1.1, y.2.2.2.1.1.2, .row 14 w2) :: (p.1.1, p.1.2, .row 3 ((c.slots.map (exV i j)).map (ab.tw 0))) :: (p.2.1.1, p.2.1.2, .row 3 (c.stack.map (ab.tw 0))) :: (p.2.2.1, p.2.2.2, .row 3 (c.values.map (ab.tw 0))) :: (E ++ G3)) (.perm (xB _ _ _ _ _).symm) ?_; rw [cm m y]))
    refine eY (objs' := (s9, b9, .box [.fn 108 [.cp w0.heap.size [.int .i64 i], .cp w0.heap.size [.int .i64 j]]]) :: (p.2.1.1, p.2.1.2, .row 3 (c.stack.map (ab.tw 0))) :: (s8, b8, .box (imC m y)) :: (y.2.2.2.1.1.1, y.2.2.2.1.1.2, .row 14 w2) :: (p.1.1, p.1.2, .row 3 ((c.slots.map (exV i j)).map (ab.tw 0))) :: (p.2.2.1, p.2.2.2, .row 3 (c.values.map (ab.tw 0))) :: (E ++ G3)) (.perm (acu _ _ _ _ _)) ?_
    rw [cm m y]
    repeat' (first | refine W_ ?_ | ((with_reducible apply gx); rfl; rfl; kernel_rfl; (repeat (first | exact aH.nil | ((with_reducible apply aH.cons); rfl))); rfl; exact hG; exact ct2; exact .cons _ _ _ _ (.cons _ _ _ _ (.nil _)); rintro ⟨⟩ -; refine bY (objs' := (s8, b8, .box (imC m y)) :: (s9, b9, .box [.fn 108 [.cp w0.heap.size [.int .i64 i], .cp w0.heap.size [.int .i64 j]]]) :: (y.2.2.2.1.1.1, y.2.2.2.1.1.2, .row 14 w2) :: (p.1.1, p.1.2, .row 3 ((c.slots.map (exV i j)).map (ab.tw 0))) :: (p.2.1.1, p.2.1.2, .row 3 ((c.stack.map (exV i j)).map (ab.tw 0))) :: (p.2.2.1, p.2.2.2, .row 3 (c.values.map (ab.tw 0))) :: (E ++ G3)) (.perm (acu _ _ _ _ _).symm) ?_; rw [cm m y]))
    refine eY (objs' := (s9, b9, .box [.fn 108 [.cp w0.heap.size [.int .i64 i], .cp w0.heap.size [.int .i64 j]]]) :: (p.2.2.1, p.2.2.2, .row 3 (c.values.map (ab.tw 0))) :: (s8, b8, .box (imC m y)) :: (y.2.2.2.1.1.1, y.2.2.2.1.1.2, .row 14 w2) :: (p.1.1, p.1.2, .row 3 ((c.slots.map (exV i j)).map (ab.tw 0))) :: (p.2.1.1, p.2.1.2, .row 3 ((c.stack.map (exV i j)).map (ab.tw 0))) :: (E ++ G3)) (.perm (acf _ _ _ _ _ _)) ?_
    rw [cm m y]
    repeat' (first | refine W_ ?_ | ((with_reducible apply gx); rfl; rfl; kernel_rfl; (repeat (first | exact aH.nil | ((with_reducible apply aH.cons); rfl))); rfl; exact hG; exact ct3; exact .cons _ _ _ _ (.cons _ _ _ _ (.nil _)); rintro ⟨⟩ -; refine bY (objs' := (s8, b8, .box (imC m y)) :: (s9, b9, .box [.fn 108 [.cp w0.heap.size [.int .i64 i], .cp w0.heap.size [.int .i64 j]]]) :: (y.2.2.2.1.1.1, y.2.2.2.1.1.2, .row 14 w2) :: (p.1.1, p.1.2, .row 3 ((c.slots.map (exV i j)).map (ab.tw 0))) :: (p.2.1.1, p.2.1.2, .row 3 ((c.stack.map (exV i j)).map (ab.tw 0))) :: (p.2.2.1, p.2.2.2, .row 3 ((c.values.map (exV i j)).map (ab.tw 0))) :: (E ++ G3)) (.perm (acf _ _ _ _ _ _).symm) ?_; rw [cm m y]))
    refine ag (q + 1) (by omega) (by omega) (.of _ nw_ od_ (.perm ?_))
    rw [<- hw2, <- hr2]
    exact .cons _ (.cons _ (.cons _ (by simpa [cH, exC] using h4.append_right G3)))
   obtain rfl : q = m.contexts.length := by omega
   rw [gW]
   have hct := adc hst w0.heap.size w0.heap.size s8 b8 i j (.ms y.1.1.1.1 y.1.1.1.2 0 m.base.classes.length) (.ms y.1.2.1.1.1 y.1.2.1.1.2 0 m.base.codes.length) (.ms y.1.2.2.1 y.1.2.2.2 0 m.base.entries.length) (.int .i64 m.base.main) (.ms y.2.1.1.1.1 y.2.1.1.1.2 0 m.store.classes.length) (.ms y.2.1.2.1.1.1 y.2.1.2.1.1.2 0 m.store.objects.length) (.ms y.2.1.2.2.1 y.2.1.2.2.2 0 m.store.output.length) (.int .i64 m.store.ticks) (.int .i64 m.store.budget) (.int .i64 m.store.made) (.ms y.2.2.1.1 y.2.2.1.2 0 m.blocks.length) (.ms y.2.2.2.1.1.1 y.2.2.2.1.1.2 0 m.contexts.length) (.ms y.2.2.2.2.1.1 y.2.2.2.2.1.2 0 m.processes.length) (.ms y.2.2.2.2.2.1 y.2.2.2.2.2.2 0 m.ready.length) (.int .i64 m.now) (.int .i64 m.status) (.str m.fault) m.value.kind m.value.number m.value.text
   have hpe := kv m (m.store.objects.map (exO i j)) (m.blocks.map (exB i j)) (m.contexts.map (exC i j)) (exV i j m.value) y
   rw [hG3, hT]
   refine bH (objs' := (s8, b8, .box (imC m y)) :: (s6, b6, .box ao.tz) :: (s9, b9, .box [.fn 108 [.cp w0.heap.size [.int .i64 i], .cp w0.heap.size [.int .i64 j]]]) :: (imO (exI m i j) y ++ R)) (.perm ?_) ?_
   ·have h := dg (n := 8) [[(s8, b8, .box (imC m y))], [(s9, b9, aW.box [.fn 108 [.cp w0.heap.size [.int .i64 i], .cp w0.heap.size [.int .i64 j]]])], nf (m.contexts.map (exC i j)) y.2.2.2.1, [(y.2.2.1.1, y.2.2.1.2, aW.row 6 ((m.blocks.map (exB i j)).map (aj.tw 0)))], pu (m.store.objects.map (exO i j)) y.2.1.2.1, uw m y, [(s6, b6, aW.box ao.tz)], R] [0, 6, 1, 4, 3, 2, 5, 7] rfl (by decide)
    refine List.Perm.trans (.cons _ (.cons _ (.cons _ (hpe.append_right R)))) ?_
    rw [<- cm m y]
    simpa [nf] using h
   rw [cm m y]
   repeat' (first | refine W_ ?_ | ((with_reducible apply gx); rfl; rfl; kernel_rfl; (repeat (first | exact aH.nil | ((with_reducible apply aH.cons); rfl))); rfl; exact hG; exact hct; exact .cons _ _ _ _ (.nil _); rintro ⟨⟩ -; refine bI ?_) | refine ac ?_)
   refine cK (t1 := .agg [.ms y.1.1.1.1 y.1.1.1.2 0 m.base.classes.length, .ms y.1.2.1.1.1 y.1.2.1.1.2 0 m.base.codes.length, .ms y.1.2.2.1 y.1.2.2.2 0 m.base.entries.length, .int .i64 m.base.main, .ms y.2.1.1.1.1 y.2.1.1.1.2 0 m.store.classes.length, .ms y.2.1.2.1.1.1 y.2.1.2.1.1.2 0 m.store.objects.length, .ms y.2.1.2.2.1 y.2.1.2.2.2 0 m.store.output.length, .int .i64 m.store.ticks, .int .i64 m.store.budget, .int .i64 m.store.made, .ms y.2.2.1.1 y.2.2.1.2 0 m.blocks.length, .ms y.2.2.2.1.1.1 y.2.2.2.1.1.2 0 m.contexts.length, .ms y.2.2.2.2.1.1 y.2.2.2.2.1.2 0 m.processes.length, .ms y.2.2.2.2.2.1 y.2.2.2.2.2.2 0 m.ready.length, .int .i64 m.now, .int .i64 m.status, .int .i64 m.value.kind, .int .i64 (exN i j m.value.kind m.value.number), .str m.value.text, .str m.fault]) (t2 := .bool true) x_ rfl y (acA hy (List.length_map _) (List.length_map _)) rfl (.app _ R) (.drop (.drop (.drop (.refl _)))) (.cell _ _ _ _ _ rfl mm_ (by kernel_rfl) (by kernel_rfl) (by kernel_rfl)) (.tmp _ _ rfl) ?_
   show TV.tup [.agg (imC (exI m i j) y), .bool true] = _
   simp [imC, exI, acN, exV]
end Go.Proofs.YtiihihgjiklnoaaGreatDoor
