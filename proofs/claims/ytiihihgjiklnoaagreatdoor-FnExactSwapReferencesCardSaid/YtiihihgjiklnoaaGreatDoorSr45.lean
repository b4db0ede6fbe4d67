/- Part 45 of the proof: the texts SrD, SrL. -/
import Derived.Test.YtiihihgjiklnoaaGreatDoorSr43
import Derived.Test.YtiihihgjiklnoaaGreatDoorSr42
import Derived.Test.YtiihihgjiklnoaaGreatDoorSr44
import Derived.Test.YtiihihgjiklnoaaGreatDoorSr3
import Derived.Test.YtiihihgjiklnoaaGreatDoorSr17
import Derived.Test.YtiihihgjiklnoaaGreatDoorSr34
import Derived.Test.YtiihihgjiklnoaaGreatDoorSr31
set_option linter.all false
set_option maxHeartbeats 4000000
set_option maxRecDepth 20000
namespace Go.Proofs.YtiihihgjiklnoaaGreatDoor
open Go Go.RowKit
theorem ik {m : ao} {v : ab} (h : mS m v) (h6 : v.kind = 6) : v.text = ⟨#[]⟩ := by
 unfold mS cB jP at h
 rw [h6] at h
 simp at h
 exact h.1.2
open Classical in
theorem ac7 {m : ao} (h : eI m = true) : mS m m.value /\ (∀ o ∈ m.store.objects, ∀ v ∈ o.fields, mS m v) /\ (∀ b ∈ m.blocks, mS m b.self) /\ ∀ (i : Nat) (h : i < m.contexts.length), mS m m.contexts[i].self /\ (∀ v ∈ m.contexts[i].slots, mS m v) /\ (∀ v ∈ m.contexts[i].stack, mS m v) /\ ∀ v ∈ m.contexts[i].values, mS m v := by
 have hi : aef m := of_decide_eq_true h
 obtain ⟨_, o, ho, _⟩ := gE hi.ver
 obtain ⟨hc, hb⟩ := hi.outs o ho
 refine ⟨hi.value, fun o ho v hv => ?_, fun b hbm => ?_, fun i hil => ?_⟩
 ·have hst := hi.store
  unfold jJ at hst
  simp only [Bool.and_eq_true] at hst
  obtain ⟨_, _, _, _, _, _, hob⟩ := hst
  have h1 := List.all_eq_true.1 hob o ho
  unfold f7 at h1
  simp only [Bool.and_eq_true] at h1
  exact List.all_eq_true.1 h1.1 v hv
 ·have h1 := hb b hbm
  unfold jG at h1
  simp only [Bool.and_eq_true] at h1
  obtain ⟨_, _, _, h2⟩ := h1
  cases hx : cxA m b.outer with
  | none => rw [hx] at h2; cases h2
  | some c =>
    rw [hx] at h2
    simp only [Bool.and_eq_true] at h2
    obtain ⟨_, hl, he⟩ := nh hx
    rw [aej.1 h2.2.2.2, <- he]
    exact (jp (hc _ hl)).2.1
 ·obtain ⟨_, h1, h2, h3, h4, _⟩ := jp (hc i hil)
  exact ⟨h1, ko h2, ko h3, ko h4⟩
theorem j9 (l : List ab) (n : Nat) : ∀ y : Nat × Nat, True -> (∀ s b o, (s, b, o) ∈ [(y.1, y.2, aW.row 3 (l.map (ab.tw 0)))] -> ck [(y.1, y.2, aW.row 3 (l.map (ab.tw 0)))] o) /\ dE [(y.1, y.2, aW.row 3 (l.map (ab.tw 0)))] (.ms y.1 y.2 0 n) := fun y _ =>
 ⟨fun s b o h => by
   simp only [List.mem_singleton, Prod.mk.injEq] at h
   obtain ⟨_, _, rfl⟩ := h
   exact nS _ _, .ms _ _ _ _ _ _ List.mem_cons_self⟩
theorem ad6 (z a b o n : Nat × Nat × aW) {R : aG} : (o :: a :: b :: z :: n :: R).Perm (z :: a :: b :: o :: n :: R) := by
 have h := dg (n := 6) [[z], [a], [b], [o], [n], R] [3, 1, 2, 0, 4, 5] rfl (by decide)
 simpa using h
theorem aeo (a b c s r z1 z2 z3 : Nat × Nat × aW) {R : aG} : (a :: b :: c :: s :: r :: z1 :: z2 :: z3 :: R).Perm (z3 :: z2 :: z1 :: s :: r :: a :: b :: c :: R) := by
 have h := dg (n := 9) [[z3], [z2], [z1], [s], [r], [a], [b], [c], R] [5, 6, 7, 3, 4, 2, 1, 0, 8] rfl (by decide)
 simpa using h
theorem iJ (lo : Nat) (m : ao) (hsm : m.small 1048576) (i j : Int) : CtM Tryz.prog GL 39 [.agg (m.tw lo), .int .i64 i, .int .i64 j] [] (imI (aT m i j)) (imO (aT m i j)) (fun y => .tup [.agg (imC (aT m i j) y), .bool (dD m i j)]) := by
 refine aw Tryz.func39 rfl Tryz.ntmps39 rfl rfl rfl fun w0 R gs objsR hG hR => ?_
 obtain rfl := hR.inv0
 clear hR
 have hst := dJ
 have hto := xZ w0.heap.size lo m hsm i j
 have hcp := uR hst w0.heap.size lo m hsm
 unfold dD
 cases hB : ch m i j with
 | false =>
   have hI : aT m i j = zIm := by unfold aT; rw [if_neg (by rw [hB]; simp)]
   rw [hI]
   rw [hB] at hto
   unfold ao.tw at hto |-
   repeat' (first | refine W_ ?_ | refine aM ?_ | (refine am ?_; intro ss bb) | refine ic ?_ | refine ac ?_ | refine ad hG hst (hto) ?_)
   refine zN fun y hy => ?_
   exact cK (t1 := .agg (imC zIm y)) (t2 := .bool false) x_ rfl y hy rfl (.app _ R) (.drop (.refl _)) (.cell _ _ _ _ _ rfl mm_ (by kernel_rfl) (by kernel_rfl) (by kernel_rfl)) (.tmp _ _ rfl) rfl
 | true =>
   have hI : aT m i j = exI m i j := by unfold aT; rw [if_pos hB]
   rw [hI]
   rw [hB] at hto
   have hN := ac7 (adR hB).1
   unfold ao.tw at hto hcp |-
   have ho1 := hsm.2.1.2.1.1
   have hb1 := hsm.2.2.1.1
   have hc1 := hsm.2.2.2.1.1
   repeat' (first | refine H_ 4 ?_ | refine aM ?_ | (refine am ?_; intro ss bb) | refine ac ?_ | refine ad hG hst (hto) ?_ | ((with_reducible apply aJ); rfl; kernel_rfl; (repeat (first | exact aH.nil | ((with_reducible apply aH.cons); rfl))); exact hG; exact hcp; exact .nil _; intro y hy))
   refine ⟨?_⟩
   rename_i s6 b6
   generalize ss = s8; generalize bb = b8
   obtain ⟨hcb, ⟨hpc, hpo⟩, hpx⟩ := id hy
   have hpm := kv m m.store.objects m.blocks m.contexts m.value y
   rw [t7] at hpm
   obtain ⟨T, hT⟩ : ∃ T : aG, T = uw m y ++ ((s6, b6, .box ao.tz) :: R) := ⟨_, rfl⟩
   obtain ⟨G1, hG1⟩ : ∃ G1 : aG, G1 = (y.2.2.1.1, y.2.2.1.2, aW.row 6 (m.blocks.map (aj.tw 0))) :: (nf m.contexts y.2.2.2.1 ++ T) := ⟨_, rfl⟩
   refine bH (objs' := (s8, b8, .box (imC m y)) :: (y.2.1.2.1.1.1, y.2.1.2.1.1.2, .row 4 (nRg cz (de (exO i j) m.store.objects 0) y.2.1.2.1.2)) :: (nOg cR (de (exO i j) m.store.objects 0) y.2.1.2.1.2 ++ G1)) (.perm ?_) ?_
   ·rw [fF, hG1, hT]
    refine .cons _ ?_
    have := (hpm.symm).append_right ((s6, b6, aW.box ao.tz) :: R)
    refine List.Perm.trans ?_ this
    simp [pu]
   rw [cm m y]
   repeat' refine W_ ?_
   apply ak (X := Nat × List (Pl × Pl)) [1, 2, 6, 8, 1000000] (fun x => [(9, .int .i64 (x.1 : Int))])
     (fun x => (s8, b8, .box (imC m y)) :: (y.2.1.2.1.1.1, y.2.1.2.1.1.2, .row 4 (nRg cz (de (exO i j) m.store.objects x.1) x.2)) :: (nOg cR (de (exO i j) m.store.objects x.1) x.2 ++ G1))
     (fun x => x.1 <= m.store.objects.length /\ x.2.length = m.store.objects.length) (fun x => m.store.objects.length - x.1) (0, y.2.1.2.1.2) ⟨Nat.zero_le _, hpo⟩
   exact kp_; exact nw_
   ·exact .refl _
   rintro ⟨q, ps⟩ ⟨hq, hps⟩
   dsimp only at hq hps |-
   rw [cm m y]
   have hrl : (nRg cz (de (exO i j) m.store.objects q) ps).length = m.store.objects.length := by rw [fw _ (by rw [dp]; exact hps), dp]
   by_cases hlt : q < m.store.objects.length
   ·obtain ⟨p, E, h1, h3, h4⟩ := tS cz cR (exO i j) m.store.objects ps hps hlt
    have hfl := hN.2.1 _ (List.getElem_mem hlt)
    have hsm1 := (hsm.2.1.2.1.2 _ (List.getElem_mem hlt)).1.1
    generalize m.store.objects[q] = o at h1 h3 h4 hfl hsm1
    have hct := mT hst 0 i j o.fields hsm1 (fun v hv => ik (hfl v hv))
    have hnew := j9 (o.fields.map (exV i j)) o.fields.length
    generalize nRg cz (de (exO i j) m.store.objects q) ps = rows at h1 h4 hrl |-
    unfold cz at h1
    generalize nOg cR (de (exO i j) m.store.objects q) ps = r1 at h3 |-
    refine bH (objs' := (s8, b8, .box (imC m y)) :: (y.2.1.2.1.1.1, y.2.1.2.1.1.2, .row 4 rows) :: (p.1.1, p.1.2, .row 3 (o.fields.map (ab.tw 0))) :: (p.2.1, p.2.2, .row 1 (aS o.numbers)) :: (E ++ G1)) (.perm (.cons _ (.cons _ (by simpa [cR] using (h3.symm).append_right G1)))) ?_
    rw [cm m y]
    repeat' (first | refine W_ ?_ | ((with_reducible apply fe (id := 7) 14); kernel_rfl; kernel_rfl; kernel_rfl; rfl; (repeat (first | exact Cut.zero _ | apply Cut.succ))) | ((with_reducible apply m_q); exact ym_; rfl; exact iK) | ((with_reducible apply eg); rfl; (intro p; try dsimp only); (repeat (first | exact TB.nil _ | ((with_reducible apply TB.cons); rfl; rfl; (first | exact .nil _ | exact .put _ _ _ _ _ (.nil _) | exact .skip _ _ _ _ _ (.put _ _ _ _ _ (.nil _)) | exact .skip _ _ _ _ _ (.skip _ _ _ _ _ (.put _ _ _ _ _ (.nil _))) | (repeat (first | exact .nil _ | apply bz.put | apply bz.skip))); kernel_rfl))); rfl; kernel_rfl; kernel_rfl; exact iK) | ((with_reducible apply ja hG hst hct); rfl; kernel_rfl; (intro p; (repeat (first | exact bV.nil | ((with_reducible apply bV.cons); rfl; (first | with_reducible exact bW.same _ | ((with_reducible apply bW.msAll); (repeat (first | with_reducible exact mh | with_reducible refine mt ?_)); (first | with_reducible assumption | exact aF _ | exact ai _ | exact aE _ | exact List.length_map _ | assumption | rfl)) | ((with_reducible apply cr); (repeat (first | with_reducible exact mh | with_reducible refine mt ?_)); (first | with_reducible assumption | exact aF _ | exact ai _ | exact aE _ | exact List.length_map _ | assumption | rfl)) | ((with_reducible apply bW.cut); exact bW.cp0 _ _; rfl)))))); exact hnew) | (with_reducible refine DM.nil _ _ _ ?_))
    intro pp hp
    refine eO (objs' := ((Enc.dec (pp 13) : Nat × Nat).1, (Enc.dec (pp 13) : Nat × Nat).2, .row 3 ((o.fields.map (exV i j)).map (ab.tw 0))) :: (s8, b8, .box (imC m y)) :: (y.2.1.2.1.1.1, y.2.1.2.1.1.2, .row 4 rows) :: (p.1.1, p.1.2, .row 3 (o.fields.map (ab.tw 0))) :: (p.2.1, p.2.2, .row 1 (aS o.numbers)) :: (E ++ G1)) (by rw [show gB _ = [_] from rfl]; simp only [List.flatMap_cons, List.flatMap_nil, List.append_nil, List.cons_append, List.nil_append]; (try rfl)) ?_
    rw [cm m y]
    dsimp only [Nat.reduceAdd]
    generalize (Enc.dec (pp 13) : Nat × Nat) = z
    have h5 := h4 (z, p.2)
    have he : cz (exO i j o) (z, p.2) = [.int .i64 o.kind, .int .i64 o.class_, .ms z.1 z.2 0 o.fields.length, .ms p.2.1 p.2.2 0 o.numbers.length] := by simp [cz, exO]
    rw [he] at h5
    repeat' (first | refine W_ ?_ | refine bA ?_)
    refine ag (q + 1, ps.set q (z, p.2)) ⟨by dsimp only; omega, by dsimp only; rw [List.length_set]; exact hps⟩ (by dsimp only; omega) (.of _ nw_ od_ ?_)
    dsimp only
    rw [h5.1]
    exact .trans (.perm (.cons _ (.cons _ (by simpa [cR, exO] using h5.2.append_right G1)))) (.trans (.drop (.refl _)) (.perm (ad6 _ _ _ _ _)))
   obtain rfl : q = m.store.objects.length := by omega
   rw [gW]
   -- the closures
   obtain ⟨G2, hG2⟩ : ∃ G2 : aG, G2 = pu (m.store.objects.map (exO i j)) (y.2.1.2.1.1, ps) ++ (nf m.contexts y.2.2.2.1 ++ T) := ⟨_, rfl⟩
   refine bH (objs' := (s8, b8, .box (imC m y)) :: (y.2.2.1.1, y.2.2.1.2, .row 6 ((de (exB i j) m.blocks 0).map (aj.tw 0))) :: G2) (.perm ?_) ?_
   ·rw [fF, hG2, hG1]
    refine .cons _ ?_
    simpa [pu] using (List.perm_middle (l₁ := pu (m.store.objects.map (exO i j)) (y.2.1.2.1.1, ps)) (l₂ := nf m.contexts y.2.2.2.1 ++ T) (a := (y.2.2.1.1, y.2.2.1.2, aW.row 6 (m.blocks.map (aj.tw 0))))).symm
   rw [cm m y]
   clear hG1
   repeat' refine W_ ?_
   apply ak (X := Nat) [1, 2, 6, 8, 1000000] (fun q => [(10, .int .i64 (q : Int))])
     (fun q => (s8, b8, .box (imC m y)) :: (y.2.2.1.1, y.2.2.1.2, .row 6 ((de (exB i j) m.blocks q).map (aj.tw 0))) :: G2)
     (fun q => q <= m.blocks.length) (fun q => m.blocks.length - q) 0 (Nat.zero_le _)
   exact kp_; exact nw_
   ·exact .refl _
   intro q hq
   try dsimp only
   rw [cm m y]
   have hrl : ((de (exB i j) m.blocks q).map (aj.tw 0)).length = m.blocks.length := by rw [List.length_map, dp]
   by_cases hlt : q < m.blocks.length
   ·have hrow : ((de (exB i j) m.blocks q).map (aj.tw 0))[q]? = some [.int .i64 m.blocks[q].code, .int .i64 m.blocks[q].outer, .int .i64 m.blocks[q].home, .int .i64 m.blocks[q].self.kind, .int .i64 m.blocks[q].self.number, .str m.blocks[q].self.text] := by
      rw [List.getElem?_map, ka _ hlt]; rfl
    have hset : ((de (exB i j) m.blocks q).map (aj.tw 0)).set q [.int .i64 m.blocks[q].code, .int .i64 m.blocks[q].outer, .int .i64 m.blocks[q].home, .int .i64 m.blocks[q].self.kind, .int .i64 (exN i j m.blocks[q].self.kind m.blocks[q].self.number), .str m.blocks[q].self.text] = (de (exB i j) m.blocks (q + 1)).map (aj.tw 0) := by
      rw [<- kj _ hlt, List.map_set]; rfl
    have hct := gX hst m.blocks[q].self.kind m.blocks[q].self.number i j m.blocks[q].self.text (ik (hN.2.2.1 _ (List.getElem_mem hlt)))
    obtain ⟨rows2, hr2⟩ : ∃ r, r = (de (exB i j) m.blocks (q + 1)).map (aj.tw 0) := ⟨_, rfl⟩
    rw [<- hr2] at hset
    generalize (de (exB i j) m.blocks q).map (aj.tw 0) = rows at hrow hrl hset |-
    generalize m.blocks[q] = b at hrow hct hset
    repeat' (first | refine W_ ?_ | ((with_reducible apply gq (id := 11) 12); kernel_rfl; kernel_rfl; kernel_rfl; (repeat (first | exact Cut.zero _ | apply Cut.succ))) | with_reducible refine fW (by kernel_rfl) (by kernel_rfl) ?_ | with_reducible refine iV ?_ | with_reducible refine f6 ?_ | with_reducible refine fU rfl ?_ | refine i5 rfl rfl rfl rr_ ?_ | refine fT rfl rfl rfl rr_ rfl rfl rfl ?_ | refine ep rfl rfl rfl rr_ rfl rfl ?_ | (refine oy rfl rfl rfl rr_ dd_ ?_) | (refine ox rfl rfl rfl rr_ dd_ ?_) | (refine dq rfl rfl rfl rr_ (fun hg => ?_) (fun hg => ?_)) | (refine cT rfl rfl rfl rr_ (fun hg => ?_) (fun hg => ?_)) | ((with_reducible apply d_y); exact y_; rfl) | refine ae hG hst (hct) ?_ | refine bA ?_)
    rw [hset]
    exact ag (q + 1) (by omega) (by omega) (.of _ nw_ od_ (gy (by rw [hr2])))
   obtain rfl : q = m.blocks.length := by omega
   rw [gW, hG2]
   clear hG2
   -- the contexts
   obtain ⟨G3, hG3⟩ : ∃ G3 : aG, G3 = (y.2.2.1.1, y.2.2.1.2, aW.row 6 ((m.blocks.map (exB i j)).map (aj.tw 0))) :: (pu (m.store.objects.map (exO i j)) (y.2.1.2.1.1, ps) ++ T) := ⟨_, rfl⟩
   refine bH (objs' := (s8, b8, .box (imC m y)) :: (y.2.2.2.1.1.1, y.2.2.2.1.1.2, .row 14 (nRg cn (de (exC i j) m.contexts 0) y.2.2.2.1.2)) :: (nOg cH (de (exC i j) m.contexts 0) y.2.2.2.1.2 ++ G3)) (.perm ?_) ?_
   ·rw [fF, hG3]
    refine .cons _ ?_
    have h := dg (n := 4) [[(y.2.2.1.1, y.2.2.1.2, aW.row 6 ((m.blocks.map (exB i j)).map (aj.tw 0)))], pu (m.store.objects.map (exO i j)) (y.2.1.2.1.1, ps), nf m.contexts y.2.2.2.1, T] [2, 0, 1, 3] rfl (by decide)
    simpa [nf] using h
   rw [cm m y]
   repeat' refine W_ ?_
   apply ak (X := Nat × List (Pl × Pl × Pl)) [1, 2, 6, 8, 1000000] (fun x => [(11, .int .i64 (x.1 : Int))])
     (fun x => (s8, b8, .box (imC m y)) :: (y.2.2.2.1.1.1, y.2.2.2.1.1.2, .row 14 (nRg cn (de (exC i j) m.contexts x.1) x.2)) :: (nOg cH (de (exC i j) m.contexts x.1) x.2 ++ G3))
     (fun x => x.1 <= m.contexts.length /\ x.2.length = m.contexts.length) (fun x => m.contexts.length - x.1) (0, y.2.2.2.1.2) ⟨Nat.zero_le _, hpx⟩
   exact kp_; exact nw_
   ·exact .refl _
   rintro ⟨q, qs⟩ ⟨hq, hqs⟩
   dsimp only at hq hqs |-
   rw [cm m y]
   have hrl : (nRg cn (de (exC i j) m.contexts q) qs).length = m.contexts.length := by rw [fw _ (by rw [dp]; exact hqs), dp]
   by_cases hlt : q < m.contexts.length
   ·obtain ⟨p, E, h1, h3, h4⟩ := tS cn cH (exC i j) m.contexts qs hqs hlt
    obtain ⟨_, ⟨zs, _⟩, ⟨zk, _⟩, zv, _⟩ := hsm.2.2.2.1.2 _ (List.getElem_mem hlt)
    obtain ⟨hse, hsl, hsk, hva⟩ := hN.2.2.2 q hlt
    generalize m.contexts[q] = c at h1 h3 h4 zs zk zv hse hsl hsk hva
    have c0 := gX hst c.self.kind c.self.number i j c.self.text (ik hse)
    have c1 := mT hst 0 i j c.slots zs (fun v hv => ik (hsl v hv))
    have c2 := mT hst 0 i j c.stack zk (fun v hv => ik (hsk v hv))
    have c3 := mT hst 0 i j c.values zv (fun v hv => ik (hva v hv))
    have n1 := j9 (c.slots.map (exV i j)) c.slots.length
    have n2 := j9 (c.stack.map (exV i j)) c.stack.length
    have n3 := j9 (c.values.map (exV i j)) c.values.length
    generalize nRg cn (de (exC i j) m.contexts q) qs = rows at h1 h4 hrl |-
    unfold cn at h1
    generalize nOg cH (de (exC i j) m.contexts q) qs = r1 at h3 |-
    refine bH (objs' := (s8, b8, .box (imC m y)) :: (y.2.2.2.1.1.1, y.2.2.2.1.1.2, .row 14 rows) :: (p.1.1, p.1.2, .row 3 (c.slots.map (ab.tw 0))) :: (p.2.1.1, p.2.1.2, .row 3 (c.stack.map (ab.tw 0))) :: (p.2.2.1, p.2.2.2, .row 3 (c.values.map (ab.tw 0))) :: (E ++ G3)) (.perm (.cons _ (.cons _ (by simpa [cH] using (h3.symm).append_right G3)))) ?_
    rw [cm m y]
    have hrow2 : (rows.set q [.int .i64 c.mark, .int .i64 c.code, .int .i64 c.pc, .int .i64 c.sender, .int .i64 c.outer, .int .i64 c.home, .int .i64 c.self.kind, .int .i64 (exN i j c.self.kind c.self.number), .str c.self.text, .ms p.1.1 p.1.2 0 c.slots.length, .ms p.2.1.1 p.2.1.2 0 c.stack.length, .ms p.2.2.1 p.2.2.2 0 c.values.length, .int .i64 c.other, .bool c.retry])[q]? = some [.int .i64 c.mark, .int .i64 c.code, .int .i64 c.pc, .int .i64 c.sender, .int .i64 c.outer, .int .i64 c.home, .int .i64 c.self.kind, .int .i64 (exN i j c.self.kind c.self.number), .str c.self.text, .ms p.1.1 p.1.2 0 c.slots.length, .ms p.2.1.1 p.2.1.2 0 c.stack.length, .ms p.2.2.1 p.2.2.2 0 c.values.length, .int .i64 c.other, .bool c.retry] := List.getElem?_set_self (by rw [hrl]; exact hlt)
    repeat' (first | refine W_ ?_ | refine bA ?_ | refine ad hG hst (c0) ?_ | ((with_reducible apply d7); rfl; kernel_rfl; exact hG; exact hst; exact c1; (repeat (first | exact bV.nil | ((with_reducible apply bV.cons); rfl; (first | with_reducible exact bW.same _ | ((with_reducible apply bW.msAll); (repeat (first | with_reducible exact mh | with_reducible refine mt ?_)); (first | with_reducible assumption | exact aF _ | exact ai _ | exact aE _ | exact List.length_map _ | assumption | rfl)) | ((with_reducible apply cr); (repeat (first | with_reducible exact mh | with_reducible refine mt ?_)); (first | with_reducible assumption | exact aF _ | exact ai _ | exact aE _ | exact List.length_map _ | assumption | rfl)) | ((with_reducible apply bW.cut); exact bW.cp0 _ _; rfl))))); exact n1; rintro z1 -; refine bI ?_) | ((with_reducible apply d7); rfl; kernel_rfl; exact hG; exact hst; exact c2; (repeat (first | exact bV.nil | ((with_reducible apply bV.cons); rfl; (first | with_reducible exact bW.same _ | ((with_reducible apply bW.msAll); (repeat (first | with_reducible exact mh | with_reducible refine mt ?_)); (first | with_reducible assumption | exact aF _ | exact ai _ | exact aE _ | exact List.length_map _ | assumption | rfl)) | ((with_reducible apply cr); (repeat (first | with_reducible exact mh | with_reducible refine mt ?_)); (first | with_reducible assumption | exact aF _ | exact ai _ | exact aE _ | exact List.length_map _ | assumption | rfl)) | ((with_reducible apply bW.cut); exact bW.cp0 _ _; rfl))))); exact n2; rintro z2 -; refine bI ?_) | ((with_reducible apply d7); rfl; kernel_rfl; exact hG; exact hst; exact c3; (repeat (first | exact bV.nil | ((with_reducible apply bV.cons); rfl; (first | with_reducible exact bW.same _ | ((with_reducible apply bW.msAll); (repeat (first | with_reducible exact mh | with_reducible refine mt ?_)); (first | with_reducible assumption | exact aF _ | exact ai _ | exact aE _ | exact List.length_map _ | assumption | rfl)) | ((with_reducible apply cr); (repeat (first | with_reducible exact mh | with_reducible refine mt ?_)); (first | with_reducible assumption | exact aF _ | exact ai _ | exact aE _ | exact List.length_map _ | assumption | rfl)) | ((with_reducible apply bW.cut); exact bW.cp0 _ _; rfl))))); exact n3; rintro z3 -; refine bI ?_))
    have h5 := h4 (z1, z2, z3)
    have he : cn (exC i j c) (z1, z2, z3) = [.int .i64 c.mark, .int .i64 c.code, .int .i64 c.pc, .int .i64 c.sender, .int .i64 c.outer, .int .i64 c.home, .int .i64 c.self.kind, .int .i64 (exN i j c.self.kind c.self.number), .str c.self.text, .ms z1.1 z1.2 0 c.slots.length, .ms z2.1 z2.2 0 c.stack.length, .ms z3.1 z3.2 0 c.values.length, .int .i64 c.other, .bool c.retry] := by simp [cn, exC, exV]
    rw [he] at h5
    try simp only [List.set_set]
    refine ag (q + 1, qs.set q (z1, z2, z3)) ⟨by dsimp only; omega, by dsimp only; rw [List.length_set]; exact hqs⟩ (by dsimp only; omega) (.of _ nw_ od_ ?_)
    dsimp only
    rw [h5.1]
    exact .trans (.perm (.cons _ (.cons _ (by simpa [cH, exC] using h5.2.append_right G3)))) (.trans (.drop (.drop (.drop (.refl _)))) (.perm (aeo _ _ _ _ _ _ _ _)))
   obtain rfl : q = m.contexts.length := by omega
   rw [gW, hG3, hT]
   obtain ⟨y2, hy2⟩ : ∃ y2 : gF, y2 = (y.1, (y.2.1.1, (y.2.1.2.1.1, ps), y.2.1.2.2), y.2.2.1, (y.2.2.2.1.1, qs), y.2.2.2.2) := ⟨_, rfl⟩
   have hi2 : imI m y2 := by rw [hy2]; exact ⟨hcb, ⟨hpc, hps⟩, hqs⟩
   have hpe := kv m (m.store.objects.map (exO i j)) (m.blocks.map (exB i j)) (m.contexts.map (exC i j)) (exV i j m.value) y2
   have hrest : uw m y2 = uw m y := by rw [hy2]; rfl
   rw [hrest] at hpe
   have hct := gX hst m.value.kind m.value.number i j m.value.text (ik hN.1)
   refine bH (objs' := (s8, b8, .box (imC m y)) :: (s6, b6, .box ao.tz) :: (imO (exI m i j) y2 ++ R)) (.perm ?_) ?_
   ·have h := dg (n := 7) [[(s8, b8, .box (imC m y))], nf (m.contexts.map (exC i j)) (y.2.2.2.1.1, qs), [(y.2.2.1.1, y.2.2.1.2, aW.row 6 ((m.blocks.map (exB i j)).map (aj.tw 0)))], pu (m.store.objects.map (exO i j)) (y.2.1.2.1.1, ps), uw m y, [(s6, b6, aW.box ao.tz)], R] [0, 5, 3, 2, 1, 4, 6] rfl (by decide)
    refine List.Perm.trans (.cons _ (.cons _ (hpe.append_right R))) ?_
    rw [hy2]
    rw [<- cm m y]
    simpa [nf] using h
   rw [cm m y]
   repeat' (first | refine W_ ?_ | refine ad hG hst (hct) ?_ | refine ac ?_)
   refine cK (t1 := .agg [.ms y.1.1.1.1 y.1.1.1.2 0 m.base.classes.length, .ms y.1.2.1.1.1 y.1.2.1.1.2 0 m.base.codes.length, .ms y.1.2.2.1 y.1.2.2.2 0 m.base.entries.length, .int .i64 m.base.main, .ms y.2.1.1.1.1 y.2.1.1.1.2 0 m.store.classes.length, .ms y.2.1.2.1.1.1 y.2.1.2.1.1.2 0 m.store.objects.length, .ms y.2.1.2.2.1 y.2.1.2.2.2 0 m.store.output.length, .int .i64 m.store.ticks, .int .i64 m.store.budget, .int .i64 m.store.made, .ms y.2.2.1.1 y.2.2.1.2 0 m.blocks.length, .ms y.2.2.2.1.1.1 y.2.2.2.1.1.2 0 m.contexts.length, .ms y.2.2.2.2.1.1 y.2.2.2.2.1.2 0 m.processes.length, .ms y.2.2.2.2.2.1 y.2.2.2.2.2.2 0 m.ready.length, .int .i64 m.now, .int .i64 m.status, .int .i64 m.value.kind, .int .i64 (exN i j m.value.kind m.value.number), .str m.value.text, .str m.fault]) (t2 := .bool true) x_ rfl y2 (acA hi2 (List.length_map _) (List.length_map _)) rfl (.app _ R) (.drop (.drop (.refl _))) (.cell _ _ _ _ _ rfl mm_ (by kernel_rfl) (by kernel_rfl) (by kernel_rfl)) (.tmp _ _ rfl) ?_
   rw [hy2]
   show TV.tup [.agg (imC (exI m i j) _), .bool true] = _
   simp [imC, exI, acN, exV]
theorem gS (x : ao) (hb : x.small 9223372036854775807) (q0 : Int) (q1 : Int) : Ct Tryz.prog GL 9 [.agg (x.tw 0), .int .i64 q0, .int .i64 q1] (fun _ => .bool true) := by
 have hst := dJ
 have hto := fun hx => uM hst 0 x hx
 have htw := fun hx => nq hst 0 x hx
 refine aq Tryz.func9 rfl Tryz.ntmps9 rfl rfl fun w0 _ hG => ?_
 have hsp := fun hx => iJ w0.heap.size x hx q0 q1
 have him := fun (hx : x.small 1048576) => eN 0 x hx q0 q1
 have him2 := fun (hx : x.small 1048576) => eN w0.heap.size x hx q0 q1
 have heq := fun hx => pW hst 0 w0.heap.size x hx
 have hmk := fun (hx : x.small 1048576) y hy => kP hst x y hy hx 1 (by omega)
 have hsm : x.small 1048576 -> (aT x q0 q1).small 1048576 := fun h => jf h q0 q1
 have hvw : ∀ {objs : aG} {y : gF}, imI x y -> (∀ o ∈ imO x y, o ∈ objs) -> bW objs (.agg (imC x y)) (.agg (x.tw 0)) := fun h1 h2 => uB h1 h2
 have hnk := fun hx => qt (x := x) hx 1
 have hsz := yJ hst 0 x 1048576 (by omega) hb
 generalize aT x q0 q1 = sx at hsp him him2 hsm
 generalize dD x q0 q1 = vb at hsp him him2
 have hnew := acV sx vb
 have hvs : ∀ {objs : aG} {y : gF}, imI sx y -> (∀ o ∈ imO sx y, o ∈ objs) -> bW objs (.agg (imC sx y)) (.agg (sx.tw 0)) := fun h1 h2 => uB h1 h2
 unfold ao.tw at hto htw hsp heq hvw him him2 hsz |-
 unfold imC at hsp him him2 hnew hvs
 repeat' (first | refine H_ 3 ?_ | refine aM ?_ | ((with_reducible apply aJ); rfl; kernel_rfl; (repeat (first | exact aH.nil | ((with_reducible apply aH.cons); rfl))); exact hG; exact hsz; exact .nil _; intro y hy; refine bM ?_))
 refine ⟨?_⟩
 by_cases hneg : y < 0
 ·repeat' refine W_ ?_
  exact r1_
 have hx := hy.2.2 (by omega)
 replace hto := hto hx
 replace htw := htw hx
 replace hsp := hsp hx
 replace him := him hx
 replace him2 := him2 hx
 replace heq := heq hx
 replace hnk := hnk hx
 replace hmk := hmk hx
 replace hsm := hsm hx
 have hqs := pW hst 0 0 sx hsm
 clear hb hy hsz
 repeat' (first | refine H_ 6 ?_ | (refine am ?_; intro ss bb) | refine ac ?_ | refine ad hG hst (hto) ?_ | ((with_reducible apply aJ); rfl; kernel_rfl; (repeat (first | exact aH.nil | ((with_reducible apply aH.cons); rfl))); exact hG; exact hsp; exact .nil _; intro ys hys))
 refine ⟨?_⟩
 generalize ss = s4; generalize bb = b4
 repeat' (first | refine H_ 7 ?_ | ((with_reducible apply aJ); rfl; kernel_rfl; (repeat (first | exact aH.nil | ((with_reducible apply aH.cons); rfl))); exact hG; exact htw; exact .nil _; intro y hy) | (refine am ?_; intro ss bb) | refine ac ?_)
 refine ⟨?_⟩
 generalize ss = s5; generalize bb = b5
 have hl1 := hmk y hy
 clear hmk
 unfold imC at hl1 hvw
 repeat' (first | refine H_ 8 ?_ | (refine am ?_; intro ss bb) | refine ac ?_ | ((with_reducible apply d7); rfl; kernel_rfl; exact hG; exact hst; exact him; ((with_reducible apply bV.cons); rfl; exact hvw hy (fun o h => List.mem_cons_of_mem _ (List.mem_append_left _ h))); (repeat (first | exact bV.nil | ((with_reducible apply bV.cons); rfl; exact bW.same _))); exact hnew; intro yi hyi))
 refine ⟨?_⟩
 generalize ss = s7; generalize bb = b7
 refine bH (aat _ _ _ _ _ _) ?_
 repeat' (first | refine HV_ 10 ?_ | ((with_reducible apply lD); rfl; kernel_rfl; exact hG; exact hst; exact hqs; ((with_reducible apply bV.cons); rfl; exact hvs hyi fun o h => List.mem_cons_of_mem _ (List.mem_cons_of_mem _ (List.mem_cons_of_mem _ (List.mem_append_left _ h)))); ((with_reducible apply bV.cons); rfl; exact hvs hys fun o h => List.mem_cons_of_mem _ (List.mem_cons_of_mem _ (List.mem_cons_of_mem _ (List.mem_append_right _ (List.mem_append_right _ (List.mem_append_left _ h)))))); exact .nil) | refine c_ (fun hc => ?_) (fun hc => ?_))
 all_goals first
   | (exfalso; simp at hc; done)
   | skip
 refine ⟨?_⟩
 repeat' (first | refine HV_ 13 ?_ | refine ae hG hst (hto) ?_ | ((with_reducible apply adb); rfl; kernel_rfl; exact hG; exact hst; exact heq; ((with_reducible apply bV.cons); rfl; exact hvw hy fun o h => List.mem_cons_of_mem _ (List.mem_cons_of_mem _ (List.mem_cons_of_mem _ (List.mem_append_right _ (List.mem_append_left _ h))))); (repeat (first | exact bV.nil | ((with_reducible apply bV.cons); rfl; exact bW.same _)))))
 all_goals first
   | (exfalso; simp at hc; done)
   | skip
 refine ⟨?_⟩
 repeat' refine W_ ?_
 refine eY (.perm (ace _ _ _ _ (imO x y) _)) ?_
 repeat' (first | refine HV_ 16 ?_ | ((with_reducible apply aJ); rfl; kernel_rfl; (repeat (first | exact aH.nil | ((with_reducible apply aH.cons); rfl))); exact hG; exact hl1; exact .app _ _; rintro ⟨⟩ -; refine bY (.perm (ace _ _ _ _ _ _).symm) ?_) | ((with_reducible apply lD); rfl; kernel_rfl; exact hG; exact hst; exact hqs; ((with_reducible apply bV.cons); rfl; exact hvs hyi fun o h => List.mem_cons_of_mem _ (List.mem_cons_of_mem _ (List.mem_cons_of_mem _ (List.mem_append_left _ h)))); ((with_reducible apply bV.cons); rfl; exact hvs hys fun o h => List.mem_cons_of_mem _ (List.mem_cons_of_mem _ (List.mem_cons_of_mem _ (List.mem_append_right _ (List.mem_append_right _ (List.mem_append_left _ h)))))); exact .nil) | refine c_ (fun hc => ?_) (fun hc => ?_))
 all_goals first
   | (exfalso; simp at hc; done)
   | skip
 refine ⟨?_⟩
 have hl2 := kP hst sx yi hyi hsm 1 (by omega)
 unfold imC at hl2
 repeat' refine W_ ?_
 refine eY (.perm (acH _ _ _ (imO sx yi) _)) ?_
 repeat' (first | refine H_ 18 ?_ | ((with_reducible apply aJ); rfl; kernel_rfl; (repeat (first | exact aH.nil | ((with_reducible apply aH.cons); rfl))); exact hG; exact hl2; exact .app _ _; rintro ⟨⟩ -; refine bY (.perm (acH _ _ _ _ _).symm) ?_))
 refine ⟨?_⟩
 have hhd := vH hst 0 sx hsm 1 (by omega)
 have hkS := qt (x := sx) hsm 1
 have hvm : ∀ {objs : aG}, (∀ o ∈ imO (fx 1 sx) yi, o ∈ objs) -> bW objs (.agg (imC sx yi)) (.agg ((fx 1 sx).tw 0)) := fun h => abD hyi h
 unfold imC at hvm
 generalize iL 1 sx = kq at hhd hkS |-
 repeat' (first | refine H_ 24 ?_ | ((with_reducible apply lD); rfl; kernel_rfl; exact hG; exact hst; exact hhd; ((with_reducible apply bV.cons); rfl; exact hvm fun o h => List.mem_cons_of_mem _ (List.mem_cons_of_mem _ (List.mem_cons_of_mem _ (List.mem_append_left _ h)))); ((with_reducible apply bV.cons); rfl; exact bW.same _); exact bV.nil))
 all_goals first
   | (exfalso; simp at hc; done)
   | skip
 refine ⟨?_⟩
 repeat' (first | refine H_ 25 ?_ | (refine am ?_; intro ss bb) | refine ac ?_ | refine ad hG hst (hto) ?_ | ((with_reducible apply d7); rfl; kernel_rfl; exact hG; exact hst; exact him2; ((repeat (first | exact bV.nil | ((with_reducible apply bV.cons); rfl; (first | with_reducible exact bW.same _ | ((with_reducible apply bW.msAll); (repeat (first | with_reducible exact mh | with_reducible refine mt ?_)); (first | with_reducible assumption | exact aF _ | exact ai _ | exact aE _ | exact List.length_map _ | assumption | rfl)) | ((with_reducible apply cr); (repeat (first | with_reducible exact mh | with_reducible refine mt ?_)); (first | with_reducible assumption | exact aF _ | exact ai _ | exact aE _ | exact List.length_map _ | assumption | rfl)) | ((with_reducible apply bW.cut); exact bW.cp0 _ _; rfl)))))); exact hnew; intro yj hyj))
 refine ⟨?_⟩
 generalize ss = s9; generalize bb = b9
 refine bH (aaI _ _ _ _ _ _) ?_
 repeat' (first | refine HV_ 28 ?_ | ((with_reducible apply lD); rfl; kernel_rfl; exact hG; exact hst; exact hqs; ((with_reducible apply bV.cons); rfl; exact hvs hyj fun o h => List.mem_cons_of_mem _ (List.mem_cons_of_mem _ (List.mem_cons_of_mem _ (List.mem_cons_of_mem _ (List.mem_append_left _ h))))); ((with_reducible apply bV.cons); rfl; exact hvs hys fun o h => List.mem_cons_of_mem _ (List.mem_cons_of_mem _ (List.mem_cons_of_mem _ (List.mem_cons_of_mem _ (List.mem_append_right _ (List.mem_append_right _ (List.mem_append_right _ (List.mem_append_left _ h)))))))); exact .nil) | refine c_ (fun hc => ?_) (fun hc => ?_))
 all_goals first
   | (exfalso; simp at hc; done)
   | skip
 refine ⟨?_⟩
 repeat' (first | refine W_ ?_ | ((with_reducible apply lD); rfl; kernel_rfl; exact hG; exact hst; exact hhd; ((with_reducible apply bV.cons); rfl; exact hvm fun o h => List.mem_cons_of_mem _ (List.mem_cons_of_mem _ (List.mem_cons_of_mem _ (List.mem_cons_of_mem _ (List.mem_append_right _ (List.mem_append_left _ h)))))); ((with_reducible apply bV.cons); rfl; exact bW.same _); exact bV.nil))
 all_goals first
   | (exact r1_)
   | (exfalso; simp at hc; done)
theorem dZ (w : World) (t : PT) (x : ao) (hat : gw t x) (hsee : en w (· < w.heap.size) t) (hx : x.sane) (q0 : Int) (_ : i64 q0) (q1 : Int) (_ : i64 q1) (hm : tC w) : Calls Tryz.prog 9 #[.agg t.cells.toArray, .int .i64 q0, .int .i64 q1] w fun e w' => e = .returned (.bool true) /\ Below w.heap.size w w' := by
 have h0 : 0 < w.heap.size := by
   obtain ⟨m, hm⟩ := hm
   have := World.block_lt_of_cell? w _ hm
   omega
 have hok := adC w _ _ hsee
 have hsm := wh hat hsee hx
 rw [aaq hat] at hok
 refine (gS x hsm q0 q1 w _ h0 hm rfl ?_).mono ?_
 ·intro i t v h1 h2
  match i, h1, h2 with
  | 0, h1, h2 =>
    cases h1; cases h2
    exact .agg _ _ hok.2.1 (by simpa using hok.1) (fun i t v ht hv => hok.2.2 i t v ht (by simpa using hv))
  | 1, h1, h2 =>
    cases h1; cases h2
    first
      | exact .int _
      | exact .int _ _
      | exact .int
      | constructor
  | 2, h1, h2 =>
    cases h1; cases h2
    first
      | exact .int _
      | exact .int _ _
      | exact .int
      | constructor
 ·rintro e w' ⟨v, rfl, hb, hr⟩
  have := (hr 0 (Nat.zero_le _)).bool_inv
  subst this
  exact ⟨rfl, hb⟩
end Go.Proofs.YtiihihgjiklnoaaGreatDoor
