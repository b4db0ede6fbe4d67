/- Part 36 of the proof: the texts CpE, NiZ, NiZ2, ZR, ImP, ImQ, ImO. -/
import Derived.Test.YtigipcbnfeoliaaGreatDoorRf7
import Derived.Test.YtigipcbnfeoliaaGreatDoorRf12
import Derived.Test.YtigipcbnfeoliaaGreatDoorRf33
import Derived.Test.YtigipcbnfeoliaaGreatDoorRf3
import Derived.Test.YtigipcbnfeoliaaGreatDoorRf25
import Derived.Test.YtigipcbnfeoliaaGreatDoorRf11
import Derived.Test.YtigipcbnfeoliaaGreatDoorRf32
import Derived.Test.YtigipcbnfeoliaaGreatDoorRf17
set_option linter.all false
set_option maxHeartbeats 4000000
set_option maxRecDepth 20000
namespace Go.Proofs.YtigipcbnfeoliaaGreatDoor
open Go Go.RowKit
instance : Enc (Pl × Pl) := inferInstanceAs (Enc ((Nat × Nat) × (Nat × Nat)))
instance : Enc (Pl × Pl × Pl) := inferInstanceAs (Enc ((Nat × Nat) × (Nat × Nat) × (Nat × Nat)))
theorem mV {α β : Type} (mk : α -> β -> List TV) {l : List α} {ps : List β} {i : Nat} (h : i < l.length) (hp : ps.length = i) (p : β) : nRg mk (l.take i) ps ++ [mk l[i] p] = nRg mk (l.take (i + 1)) (ps ++ [p]) := by
 unfold nRg
 rw [dF h, List.zipWith_append (by rw [List.length_take]; omega)]; rfl
theorem aco (x : au) (y : Pl × Pl) : (∀ s b o, (s, b, o) ∈ cI x y -> co (cI x y) o) /\ dy (cI x y) (.agg (ce x y)) :=
 ⟨fun s b o h => sB x y _ s b o h, .agg _ (tM x y _ fun _ h => h)⟩
theorem wd (x : ap) (y : Pl × Pl × Pl) : (∀ s b o, (s, b, o) ∈ ci x y -> co (ci x y) o) /\ dy (ci x y) (.agg (bT x y)) :=
 ⟨fun s b o h => tE x y _ s b o h, .agg _ (rU x y _ fun _ h => h)⟩
theorem jh (a b : Nat × Nat × aZ) (z T R : aF) : cj (a :: b :: ((T ++ z) ++ R)) (a :: (z ++ (b :: (T ++ R)))) := .perm (by
 have h : ((T ++ z) ++ R).Perm (z ++ (T ++ R)) := by
   rw [<- List.append_assoc]
   exact List.perm_append_comm.append_right R
 exact ((h.cons b).trans List.perm_middle.symm).cons a)
section
variable {G : World -> Prop}
theorem pB (lo : Nat) (x : au) (hb : x.small 1048576) : CtM Tryz.prog G 88 [.agg [.int .i64 x.kind, .int .i64 x.class_, .sl lo 3 (x.fields.map (ab.tw lo)), .sl lo 1 (aN x.numbers)]] [] (fun _ : Pl × Pl => True) (cI x) (fun y => .agg (ce x y)) := by
 refine aw Tryz.func88 rfl Tryz.ntmps88 rfl rfl rfl fun w0 R gs objsR hG hR => ?_
 obtain rfl := hR.inv0
 clear hR
 have h1 := hb.1.1
 have h2 := hb.2
 repeat' (first | refine W_ ?_ | ((with_reducible apply aaU); rfl; rfl; rfl; intro ss bb) | (refine ak ?_; intro ss bb) | refine ac ?_ | ((with_reducible apply mo (n := 0)); rfl; rfl; kernel_rfl; kernel_rfl; rfl; kernel_rfl; rfl; rfl; rfl; rfl; intro ss bb) | ((with_reducible apply dL); rfl; rfl; rfl; kernel_rfl; (repeat (first | with_reducible exact mh | with_reducible refine mt ?_)); (first | with_reducible assumption | exact bytR_length _ | exact aj _ | exact strR_length _ | exact List.length_map _ | assumption | rfl); omega; (intro bq; (repeat (first | with_reducible exact Upd.head _ | with_reducible apply Upd.tail))); intro bb))
 rename_i s3 b3 b4 b5
 exact av (t1 := .agg [.int .i64 x.kind, .int .i64 x.class_, .ms s3 b4 0 x.fields.length, .ms ss bb 0 x.numbers.length]) x_ rfl ((s3, b4), (ss, bb)) trivial rfl (.cons _ _ _ _ (.cons _ _ _ _ (.nil R))) pk_ (.cell _ _ _ _ _ rfl mm_ (by kernel_rfl) (by kernel_rfl) (by kernel_rfl)) rfl
theorem nD (lo : Nat) (x : ap) (hb : x.small 1048576) : CtM Tryz.prog G 127 [.agg [.int .i64 x.mark, .int .i64 x.code, .int .i64 x.pc, .int .i64 x.sender, .int .i64 x.outer, .int .i64 x.home, .int .i64 x.self.kind, .int .i64 x.self.number, .str x.self.text, .sl lo 3 (x.slots.map (ab.tw lo)), .sl lo 3 (x.stack.map (ab.tw lo)), .sl lo 3 (x.values.map (ab.tw lo)), .int .i64 x.other, .bool x.retry]] [] (fun _ : Pl × Pl × Pl => True) (ci x) (fun y => .agg (bT x y)) := by
 refine aw Tryz.func127 rfl Tryz.ntmps127 rfl rfl rfl fun w0 R gs objsR hG hR => ?_
 obtain rfl := hR.inv0
 clear hR
 have h1 := hb.2.1.1
 have h2 := hb.2.2.1.1
 have h3 := hb.2.2.2.1
 repeat' (first | refine W_ ?_ | ((with_reducible apply aaU); rfl; rfl; rfl; intro ss bb) | (refine ak ?_; intro ss bb) | refine ac ?_ | ((with_reducible apply mo (n := 0)); rfl; rfl; kernel_rfl; kernel_rfl; rfl; kernel_rfl; rfl; rfl; rfl; rfl; intro ss bb) | ((with_reducible apply dL); rfl; rfl; rfl; kernel_rfl; (repeat (first | with_reducible exact mh | with_reducible refine mt ?_)); (first | with_reducible assumption | exact bytR_length _ | exact aj _ | exact strR_length _ | exact List.length_map _ | assumption | rfl); omega; (intro bq; (repeat (first | with_reducible exact Upd.head _ | with_reducible apply Upd.tail))); intro bb))
 rename_i s3 b3 b4 s5 b5 b6 b7
 exact av (t1 := .agg [.int .i64 x.mark, .int .i64 x.code, .int .i64 x.pc, .int .i64 x.sender, .int .i64 x.outer, .int .i64 x.home, .int .i64 x.self.kind, .int .i64 x.self.number, .str x.self.text, .ms s3 b4 0 x.slots.length, .ms s5 b6 0 x.stack.length, .ms ss bb 0 x.values.length, .int .i64 x.other, .bool x.retry]) x_ rfl ((s3, b4), (s5, b6), (ss, bb)) trivial rfl (.cons _ _ _ _ (.cons _ _ _ _ (.cons _ _ _ _ (.nil R)))) pk_ (.cell _ _ _ _ _ rfl mm_ (by kernel_rfl) (by kernel_rfl) (by kernel_rfl)) rfl
theorem gN (lo : Nat) (l : List ab) (hb : l.length <= 1048576) : CtM Tryz.prog G 201 [.sl lo 3 (l.map (ab.tw lo))] [] (fun _ : Nat × Nat => True) (fun y => [(y.1, y.2, .row 3 (l.map (ab.tw 0)))]) (fun y => .ms y.1 y.2 0 l.length) := by
 refine aw Tryz.func201 rfl Tryz.ntmps201 rfl rfl rfl fun w0 R gs objsR hG hR => ?_
 obtain rfl := hR.inv0
 clear hR
 repeat' (first | refine W_ ?_ | ((with_reducible apply mo (n := 0)); rfl; rfl; kernel_rfl; kernel_rfl; rfl; kernel_rfl; rfl; rfl; rfl; rfl; intro ss bb) | ((with_reducible apply dL); rfl; rfl; rfl; kernel_rfl; (repeat (first | with_reducible exact mh | with_reducible refine mt ?_)); (first | with_reducible assumption | exact bytR_length _ | exact aj _ | exact strR_length _ | exact List.length_map _ | assumption | rfl); omega; (intro bq; (repeat (first | with_reducible exact Upd.head _ | with_reducible apply Upd.tail))); intro bb))
 exact av x_ rfl (_, _) trivial rfl (.cons _ _ _ _ (.nil R)) pk_ (.tmp _ _ rfl) rfl
theorem j4 (lo : Nat) (x : ap) (hb : x.small 1048576) : CtM Tryz.prog G 115 [.agg [.int .i64 x.mark, .int .i64 x.code, .int .i64 x.pc, .int .i64 x.sender, .int .i64 x.outer, .int .i64 x.home, .int .i64 x.self.kind, .int .i64 x.self.number, .str x.self.text, .sl lo 3 (x.slots.map (ab.tw lo)), .sl lo 3 (x.stack.map (ab.tw lo)), .sl lo 3 (x.values.map (ab.tw lo)), .int .i64 x.other, .bool x.retry]] [] (fun _ : Pl × Pl × Pl => True) (ci x) (fun y => .agg (bT x y)) := by
 refine aw Tryz.func115 rfl Tryz.ntmps115 rfl rfl rfl fun w0 R gs objsR hG hR => ?_
 obtain rfl := hR.inv0
 clear hR
 have c1 := gN (G := G) lo x.slots hb.2.1.1
 have c2 := gN (G := G) lo x.stack hb.2.2.1.1
 have c3 := gN (G := G) lo x.values hb.2.2.2.1
 repeat' (first | refine W_ ?_ | ((with_reducible apply aaU); rfl; rfl; rfl; intro ss bb) | (refine ak ?_; intro ss bb) | refine ac ?_ | ((with_reducible apply aG); rfl; kernel_rfl; (repeat (first | exact aE.nil | ((with_reducible apply aE.cons); rfl))); exact hG; (first | exact c1 | exact c2 | exact c3); exact .nil _; intro y hy; refine bE ?_))
 rename_i y1 _ y2 _
 exact av (t1 := .agg [.int .i64 x.mark, .int .i64 x.code, .int .i64 x.pc, .int .i64 x.sender, .int .i64 x.outer, .int .i64 x.home, .int .i64 x.self.kind, .int .i64 x.self.number, .str x.self.text, .ms y1.1 y1.2 0 x.slots.length, .ms y2.1 y2.2 0 x.stack.length, .ms y.1 y.2 0 x.values.length, .int .i64 x.other, .bool x.retry]) x_ rfl (y1, y2, y) trivial rfl (.cons _ _ _ _ (.cons _ _ _ _ (.cons _ _ _ _ (.nil R)))) pk_ (.cell _ _ _ _ _ rfl mm_ (by kernel_rfl) (by kernel_rfl) (by kernel_rfl)) rfl
theorem zL (a e z2 z3 : Nat × Nat × aZ) (C A R : aF) : cj (z2 :: z3 :: a :: (A ++ (e :: (C ++ R)))) (a :: z3 :: (A ++ (e :: (C ++ (z2 :: R))))) := .perm (by
 have h : ((z3 :: a :: A) ++ (e :: C) ++ z2 :: R).Perm (z2 :: ((z3 :: a :: A) ++ (e :: C) ++ R)) := List.perm_middle
 exact .trans (by simpa using h.symm) (List.Perm.swap a z3 _))
theorem zx (a e : Nat × Nat × aZ) (C A R : aF) : ((C ++ ((a :: A) ++ [e])) ++ R).Perm (a :: (A ++ (e :: (C ++ R)))) := ve a e C A R
theorem rn (hst : ay G) (lo : Nat) (x : aP) (hb : x.small 1048576) : CtM Tryz.prog G 126 [.agg (x.tw lo)] [] (stI x) (stO x) (fun y => .agg (stC x y)) := by
 refine aw Tryz.func126 rfl Tryz.ntmps126 rfl rfl rfl fun w0 R gs objsR hG hR => ?_
 obtain rfl := hR.inv0
 clear hR
 have c1 := iC hst lo x.classes hb.1
 have n1 := fun (y : (Nat × Nat) × List (Nat × Nat)) (_ : y.2.length = x.classes.length) => hH (m := 3) (s := y.1.1) (b := y.1.2) (n := x.classes.length) gp gu x.classes y.2
 have hel := bP x.output
 have he1 := hb.2.2.1
 unfold aP.tw
 repeat' (first | refine W_ ?_ | refine aH ?_ | (refine ak ?_; intro ss bb) | ((with_reducible apply fl (id := 1) 15); kernel_rfl; kernel_rfl; kernel_rfl; rfl; (repeat (first | exact Cut.zero _ | apply Cut.succ))) | ((with_reducible apply m_q); exact ym_; rfl; exact i8) | ((with_reducible apply ei); rfl; (intro p; try dsimp only); (repeat (first | exact TB.nil _ | ((with_reducible apply TB.cons); rfl; rfl; (first | exact .nil _ | exact .put _ _ _ _ _ (.nil _) | exact .skip _ _ _ _ _ (.put _ _ _ _ _ (.nil _)) | exact .skip _ _ _ _ _ (.skip _ _ _ _ _ (.put _ _ _ _ _ (.nil _))) | (repeat (first | exact .nil _ | apply bw.put | apply bw.skip))); kernel_rfl))); rfl; kernel_rfl; kernel_rfl; exact i8) | ((with_reducible apply jS); rfl; rfl; kernel_rfl) | ((with_reducible apply tI); (intro p; rfl); rfl; kernel_rfl; kernel_rfl; rfl; kernel_rfl; rfl; rfl; rfl; rfl) | ((with_reducible apply lL); (intro p; rfl); (intro p; rfl); rfl; kernel_rfl; (intro p; rfl); (first | with_reducible assumption | exact bytR_length _ | exact aj _ | exact strR_length _ | exact List.length_map _ | assumption | rfl); omega; exact ⟨by decide, ah_⟩; rfl; (focus (simp; done))) | ((with_reducible apply jw hG hst c1); rfl; kernel_rfl; (intro p; (repeat (first | exact bS.nil | ((with_reducible apply bS.cons); rfl; exact .same _)))); exact n1) | (with_reducible refine DM.nil _ _ _ ?_))
 generalize ss = s2; generalize bb = b2
 intro p hp
 simp only [List.forall_mem_cons] at hp
 obtain ⟨_, _, _, hI, _⟩ := hp
 refine dJ (objs' := ((p 14).a, (p 14).b, .box [.nils, .nils, .nils, .int .i64 0, .int .i64 0, .int .i64 0]) :: ((p 3).a, (p 6).b, .row 1 (bK x.output)) :: (mF x.classes (Enc.dec (p 2)) ++ ((s2, b2, .box [.nils, .nils, .nils, .int .i64 0, .int .i64 0, .int .i64 0]) :: R))) (by rw [show gy _ = [_, _, _] from rfl]; simp only [List.flatMap_cons, List.flatMap_nil, List.append_nil, List.append_assoc, List.cons_append, List.nil_append]; (try rfl)) ?_
 dsimp only [Nat.reduceAdd] at hI |-
 generalize (Enc.dec (p 2) : (Nat × Nat) × List (Nat × Nat)) = yc at hI |-
 generalize Yu.a (p 14) = s3
 generalize Yu.b (p 14) = b3
 generalize Yu.a (p 3) = se
 generalize Yu.b (p 6) = be
 have hcl := au.len lo x.objects
 have hc1 := hb.2.1.1
 have hsm := hb.2.1.2
 repeat' (first | refine W_ ?_ | refine ac ?_)
 refine ny 1 4 (by decide) rfl fun sc => ?_
 obtain ⟨RR, hRR⟩ : ∃ RR : aF, RR = ((se, be, .row 1 (bK x.output)) :: (mF x.classes yc ++ ((s2, b2, aZ.box [.nils, .nils, .nils, .int .i64 0, .int .i64 0, .int .i64 0]) :: R))) := ⟨_, rfl⟩
 refine bD (objs' := (sc, 0, .row 4 []) :: (s3, b3, .box [.ms yc.1.1 yc.1.2 0 x.classes.length, .ms sc 0 0 0, .ms se be 0 x.output.length, .int .i64 x.ticks, .int .i64 x.budget, .int .i64 x.made]) :: RR) (by rw [hRR]; exact pk_) ?_
 apply am (X := Nat × Nat × List (Pl × Pl)) [2, 3, 21, 22, 1000000] (fun y => [(23, .int .i64 (y.1 : Int))])
   (fun y => (sc, y.2.1, .row 4 (nRg ce (x.objects.take y.1) y.2.2)) :: (s3, b3, .box [.ms yc.1.1 yc.1.2 0 x.classes.length, .ms sc y.2.1 0 y.1, .ms se be 0 x.output.length, .int .i64 x.ticks, .int .i64 x.budget, .int .i64 x.made]) :: (nOg cI (x.objects.take y.1) y.2.2 ++ RR))
   (fun y => y.1 <= x.objects.length /\ y.2.2.length = y.1) (fun y => x.objects.length - y.1) (0, 0, []) ⟨Nat.zero_le _, rfl⟩
 exact kp_; exact nw_
 ·exact .refl _
 rintro ⟨i, bc, ps⟩ ⟨hi, hps⟩
 dsimp only at hi hps |-
 by_cases hlt : i < x.objects.length
 ·have hrs := fun p => mV ce hlt hps p
  have hos := fun p => jl cI hlt hps p
  have hra : (x.objects.map (au.tw lo))[i]? = some (x.objects[i].tw lo) := aI hlt
  have hrl : (nRg ce (x.objects.take i) ps).length = i := by rw [fq _ (by rw [List.length_take]; omega), List.length_take]; omega
  have hbi := hsm _ (List.getElem_mem hlt)
  generalize x.objects[i] = c at hrs hos hra hbi
  rw [show c.tw lo = [.int .i64 c.kind, .int .i64 c.class_, .sl lo 3 (c.fields.map (ab.tw lo)), .sl lo 1 (aN c.numbers)] from rfl] at hra
  have c2 := pB (G := G) lo c hbi
  have n2 := fun (y : Pl × Pl) (_ : True) => aco c y
  generalize nOg cI (x.objects.take i) ps = T at hos |-
  repeat' (first | refine W_ ?_ | (refine ak ?_; intro ss bb) | refine ac ?_)
  generalize ss = s5; generalize bb = b5
  refine bD (.perm (List.Perm.swap _ _ _)) ?_
  repeat' (first | refine W_ ?_ | ((with_reducible apply ky (id := 5) 7); kernel_rfl; kernel_rfl; kernel_rfl; rfl; (repeat (first | exact Cut.zero _ | apply Cut.succ))) | ((with_reducible apply m_q); exact ym_; rfl; exact i8) | ((with_reducible apply ei); rfl; (intro p; try dsimp only); (repeat (first | exact TB.nil _ | ((with_reducible apply TB.cons); rfl; rfl; (first | exact .nil _ | exact .put _ _ _ _ _ (.nil _) | exact .skip _ _ _ _ _ (.put _ _ _ _ _ (.nil _)) | exact .skip _ _ _ _ _ (.skip _ _ _ _ _ (.put _ _ _ _ _ (.nil _))) | (repeat (first | exact .nil _ | apply bw.put | apply bw.skip))); kernel_rfl))); rfl; kernel_rfl; kernel_rfl; exact i8) | ((with_reducible apply qb); (intro p; rfl); rfl; kernel_rfl; kernel_rfl; rfl; kernel_rfl; rfl; (intro p; rfl); rfl; (intro p; rfl); exact i8) | ((with_reducible apply jw hG hst c2); rfl; kernel_rfl; (intro p; (repeat (first | exact bS.nil | ((with_reducible apply bS.cons); rfl; exact .same _)))); exact n2) | ((with_reducible apply sZ); (intro p; rfl); (intro p; rfl); rfl; kernel_rfl; (intro p; rfl); exact hrl; (intro p; show List.length _ = 1; rfl); omega; exact fun p => hrs (Enc.dec (p _)); exact ⟨by decide, by decide⟩; exact aal; rfl; (focus (simp; done))) | (with_reducible refine DM.nil _ _ _ ?_))
  intro p hp
  refine dJ (objs' := (sc, (p 5).b, .row 4 (nRg ce (x.objects.take (i + 1)) (ps ++ [Enc.dec (p 3)]))) :: (cI c (Enc.dec (p 3)) ++ ((s5, b5, .box [.int .i64 c.kind, .int .i64 c.class_, .sl lo 3 (c.fields.map (ab.tw lo)), .sl lo 1 (aN c.numbers)]) :: (s3, b3, .box [.ms yc.1.1 yc.1.2 0 x.classes.length, .ms sc bc 0 i, .ms se be 0 x.output.length, .int .i64 x.ticks, .int .i64 x.budget, .int .i64 x.made]) :: (T ++ RR)))) (by rw [show gy _ = [_, _] from rfl]; (try simp only [List.flatMap_cons, List.flatMap_nil, List.append_nil, List.append_assoc, List.cons_append, List.nil_append]); (try rfl)) ?_
  dsimp only [Nat.reduceAdd] at hp |-
  generalize (Enc.dec (p 3) : Pl × Pl) = q
  generalize Yu.b (p 5) = bb
  refine dJ (objs' := _ :: (q.1.1, q.1.2, .row 3 (c.fields.map (ab.tw 0))) :: (q.2.1, q.2.2, .row 1 (aN c.numbers)) :: (s5, b5, _) :: (s3, b3, _) :: _) rfl ?_
  repeat' (first | refine W_ ?_ | refine ac ?_)
  refine ag (i + 1, bb, ps ++ [q]) ⟨by dsimp only; omega, by dsimp only; simp [hps]⟩ (by dsimp only; omega) (.of _ nw_ od_ ?_)
  dsimp only
  rw [hos q]
  refine cj.trans (jh _ _ (cI c q) T RR) ?_
  exact .sub (.cons_cons _ (.cons_cons _ (.cons_cons _ (.cons _ (List.Sublist.refl _)))))
 ·obtain rfl : i = x.objects.length := by omega
  rw [List.take_of_length_le (Nat.le_refl _), hRR]
  refine bD (zL _ _ _ _ _ _ _) ?_
  repeat' (first | refine W_ ?_ | refine ac ?_)
  exact av (t1 := .agg [.ms yc.1.1 yc.1.2 0 x.classes.length, .ms sc bc 0 x.objects.length, .ms se be 0 x.output.length, .int .i64 x.ticks, .int .i64 x.budget, .int .i64 x.made]) x_ rfl (yc, ((sc, bc), ps), (se, be)) ⟨hI, hps⟩ rfl (.app _ R) (.drop (.drop (.perm (zx _ _ _ _ R)))) (.cell _ _ _ _ _ rfl mm_ (by kernel_rfl) (by kernel_rfl) (by kernel_rfl)) rfl
end
def zIm : ah := ⟨⟨[], [], [], 0⟩, ⟨[], [], [], 0, 0, 0⟩, [], [], [], [], 0, 0, afy, ⟨#[]⟩⟩
theorem aaq (n : Nat) : zIm.small n :=
 ⟨⟨⟨Nat.zero_le _, by simp [zIm]⟩, ⟨Nat.zero_le _, by simp [zIm]⟩, Nat.zero_le _, by simp [zIm]⟩, ⟨⟨Nat.zero_le _, by simp [zIm]⟩, ⟨Nat.zero_le _, by simp [zIm]⟩, Nat.zero_le _, by simp [zIm]⟩, ⟨Nat.zero_le _, by simp [zIm]⟩, ⟨Nat.zero_le _, by simp [zIm]⟩, ⟨Nat.zero_le _, by simp [zIm]⟩, Nat.zero_le _, Nat.zero_le _, Nat.zero_le _⟩
section
variable {w0 : World} {N : Nat} {Q : Exit -> Act -> World -> Prop} {env : Env} {objs : aF}
theorem aaE (z a0 a1 a2 a4 a5 a6 a10 a11 a12 a13 : Nat × Nat × aZ) (R : aF) : cj (z :: ((([a0] ++ ([a1] ++ [a2])) ++ (([a4] ++ ([a5] ++ [a6])) ++ ([a10] ++ ([a11] ++ ([a12] ++ [a13]))))) ++ R)) (z :: a13 :: a12 :: a11 :: a10 :: a6 :: a5 :: a4 :: a2 :: a1 :: a0 :: R) := .perm (by
 have h := cJ (n := 11) [[a0], [a1], [a2], [a4], [a5], [a6], [a10], [a11], [a12], [a13], R] [9, 8, 7, 6, 5, 4, 3, 2, 1, 0, 10] rfl (by decide)
 exact (show (([a0] ++ ([a1] ++ [a2])) ++ (([a4] ++ ([a5] ++ [a6])) ++ ([a10] ++ ([a11] ++ ([a12] ++ [a13]))))  ++ R).Perm (a13 :: a12 :: a11 :: a10 :: a6 :: a5 :: a4 :: a2 :: a1 :: a0 :: R) by simpa using h.symm).cons z)
theorem n6 {x : Exit} {s b : Nat} (h : ∀ y : eF, imI zIm y -> AQ w0 N Q x env ((s, b, .box (imC zIm y)) :: (imO zIm y ++ objs))) : AQ w0 N Q x env ((s, b, .box ah.tz) :: objs) := by
 unfold ah.tz
 refine f9 0 3 (by decide) rfl fun s0 => ?_
 refine f9 1 4 (by decide) rfl fun s1 => ?_
 refine f9 2 4 (by decide) rfl fun s2 => ?_
 refine f9 4 3 (by decide) rfl fun s4 => ?_
 refine f9 5 4 (by decide) rfl fun s5 => ?_
 refine f9 6 1 (by decide) rfl fun s6 => ?_
 refine f9 10 6 (by decide) rfl fun s10 => ?_
 refine f9 11 14 (by decide) rfl fun s11 => ?_
 refine f9 12 2 (by decide) rfl fun s12 => ?_
 refine f9 13 1 (by decide) rfl fun s13 => ?_
 dsimp only [List.set]
 exact nB (aaE _ _ _ _ _ _ _ _ _ _ _ objs) (h ((((s0, 0), []), ((s1, 0), []), (s2, 0)), (((s4, 0), []), ((s5, 0), []), (s6, 0)), (s10, 0), ((s11, 0), []), (s12, 0), (s13, 0)) ⟨⟨rfl, rfl⟩, ⟨rfl, rfl⟩, rfl⟩)
end
theorem rF {lo : Nat} {l : List au} {i : Nat} (h : i < l.length) : (l.map (au.tw lo))[i]? = some [.int .i64 l[i].kind, .int .i64 l[i].class_, .sl lo 3 (l[i].fields.map (ab.tw lo)), .sl lo 1 (aN l[i].numbers)] := aI h
theorem aeb {m : ah} {oc : Int} {fs : List ab} {n0 n1 n2 : Int} : xe m ⟨1, oc, fs, [n0, n1, n2]⟩ ↔ yQ m n0 n1 n2 := by
 unfold xe
 constructor
 ·intro h; exact h rfl n0 n1 n2 rfl
 ·intro h _ a b c e
  simp only [List.cons.injEq] at e
  obtain ⟨rfl, rfl, rfl, _⟩ := e
  exact h
open Classical in
noncomputable def uP (m : ah) : Bool := decide (∀ o ∈ m.store.objects, xe m o)
open Classical in
theorem aez {m : ah} {o : au} (ho : o ∈ m.store.objects) (h : ¬ xe m o) : uP m = false := decide_eq_false fun k => h (k o ho)
open Classical in
theorem aeN {m : ah} (h : ∀ o ∈ m.store.objects, xe m o) : uP m = true := decide_eq_true h
theorem aec {l : List Int} (h : l.length = 3) : ∃ a b c, l = [a, b, c] := by
 match l, h with
 | [a, b, c], _ => exact ⟨a, b, c, rfl⟩
section
variable {G : World -> Prop}
theorem uH (lo : Nat) (l : List Int) (v : Int) (hn : l.length <= 1000000000) : Ct Tryz.prog G 196 [.sl lo 1 (aN l), .int .i64 v] (fun _ => .bool (decide (v ∈ l))) := by
 refine aq Tryz.func196 rfl Tryz.ntmps196 rfl rfl fun w0 _ hG => ?_
 have hlen := aj l
 repeat' refine W_ ?_
 apply am (X := Nat) [0, 1] (fun i => [(5, .int .i64 (i : Int))]) (fun _ => []) (fun i => i <= l.length /\ ∀ y ∈ l.take i, y ≠ v) (fun i => l.length - i) 0 ⟨Nat.zero_le _, by simp⟩
 exact kp_; exact nw_
 ·exact .refl _
 rintro i ⟨hi, hs⟩
 try dsimp only
 by_cases hlt : i < l.length
 ·have hrow := jy hlt
  have hta := aX (p := fun y => y ≠ v) hlt hs
  have hmm := List.getElem_mem hlt
  generalize l[i] = x at hrow hta hmm
  by_cases hx : x = v
  ·rw [decide_eq_true (hx ▸ hmm)]
   repeat' refine W_ ?_
   exact r1_
  ·repeat' refine W_ ?_
   exact ag (i + 1) ⟨by omega, hta hx⟩ (by omega) (.of _ nw_ od_ pk_)
 ·rw [List.take_of_length_le (by omega)] at hs
  rw [decide_eq_false fun h => hs v h rfl]
  repeat' refine W_ ?_
  exact r1_
end
def oq (m : ah) (L : List Int) : Prop := (∀ p ∈ L, 0 <= p /\ p < m.processes.length) /\ L.Nodup
open Classical in
noncomputable def alO (m : ah) : Option (List Int) := if oq m (nd m ++ m.ready ++ vW m) then some (nd m ++ m.ready ++ vW m) else none
open Classical in
theorem afa {m : ah} {L : List Int} (e : L = nd m ++ m.ready ++ vW m) (h : oq m L) : alO m = some L := by subst e; exact if_pos h
open Classical in
theorem afj {m : ah} {L : List Int} (e : L = nd m ++ m.ready ++ vW m) (h : ¬ oq m L) : alO m = none := by subst e; exact if_neg h
open Classical in
theorem abJ {m : ah} {L : List Int} (h : alO m = some L) : L = nd m ++ m.ready ++ vW m /\ oq m L := by
 unfold alO at h
 split at h
 ·rename_i hp
  cases h
  exact ⟨rfl, hp⟩
 ·cases h
open Classical in
theorem ab8 {m : ah} (h : alO m = none) : ¬ oq m (nd m ++ m.ready ++ vW m) := by
 unfold alO at h
 split at h
 ·cases h
 ·assumption
noncomputable def aaB (m : ah) (K : Nat) : TV := .tup [.sl K 1 (aN ((alO m).getD [])), .bool (alO m).isSome]
theorem qd {L : List Int} {i : Nat} (h : i < L.length) (hn : (L.take i).Nodup) (hx : L[i] ∉ L.take i) : (L.take (i + 1)).Nodup := by
 rw [dF h, List.nodup_append]
 refine ⟨hn, by simp, fun a ha b hb e => ?_⟩
 rw [List.mem_singleton] at hb
 subst hb
 exact hx (e ▸ ha)
theorem sI {L : List Int} {i : Nat} (h : i < L.length) (hx : L[i] ∈ L.take i) : ¬ L.Nodup := fun hn => by
 rw [<- List.take_append_drop i L, List.nodup_append] at hn
 exact hn.2.2 _ hx L[i] (by rw [List.drop_eq_getElem_cons h]; exact List.mem_cons_self) rfl
theorem rf (a b : List Int) : aN a ++ aN b = aN (a ++ b) := by simp [aN]
theorem tQ (a : List Int) (n : Nat) : (aN a).drop n = aN (a.drop n) := by simp [aN]
theorem sM (a : List Int) (n : Nat) : (aN a).take n = aN (a.take n) := by simp [aN]
theorem oH {l : List au} {i : Nat} (h : i < l.length) : (l.take (i + 1)).flatMap vq = (l.take i).flatMap vq ++ vq l[i] := by
 rw [dF h, List.flatMap_append]; simp
theorem vy {l : List au} {i : Nat} (hi : i <= l.length) (hs : ∀ o ∈ l, o.numbers.length <= 1048576) : ((l.take i).flatMap vq).length <= i * 1048576 := by
 induction i with
 | zero => simp
 | succ i ih =>
   have hlt : i < l.length := by omega
   rw [oH hlt, List.length_append]
   have h1 := ih (by omega)
   have h2 : (vq l[i]).length <= 1048576 := by
     have := hs _ (List.getElem_mem hlt)
     unfold vq
     split
     ·rw [List.length_drop]; omega
     ·simp
   omega
theorem vF (m : ah) : (nd m).length <= 1 := by unfold nd; split <;> simp
theorem vB (f lo : Nat) (m : ah) (hsm : m.small 1048576) (h800 : m.store.objects.length <= 800) (hsem : ∀ o ∈ m.store.objects, o.kind = 3 -> 1 <= o.numbers.length) (hp1 : 1 <= m.processes.length) : Ct Tryz.prog GL 110 [.cp f (m.tw lo)] (aaB m) := by
 refine aq Tryz.func110 rfl Tryz.ntmps110 rfl rfl fun w0 _ hG => ?_
 have hst := dG
 have hlo := au.len lo m.store.objects
 have hlp := ao.len lo m.processes
 have hpl := hsm.2.2.2.2.1.1
 have hrl := hsm.2.2.2.2.2.1
 have hrl2 := aj m.ready
 have hnum : ∀ o ∈ m.store.objects, o.numbers.length <= 1048576 := fun o h => (hsm.2.1.2.1.2 o h).2
 have hsl := fun (i : Nat) (h : i <= m.store.objects.length) => vy h hnum
 have hnl := vF m
 have hnow : nd m = if m.status = 0 then [m.now] else [] := rfl
 unfold aaB
 unfold ah.tw
 repeat' (first | refine H_ 2 ?_ | ((with_reducible apply mo (n := 0)); rfl; rfl; kernel_rfl; kernel_rfl; rfl; kernel_rfl; rfl; rfl; rfl; rfl; intro ss bb))
 refine ⟨?_⟩
 generalize ss = s4; generalize bb = b4
 apply fx (X := Nat) [0] (fun b => [(4, .ms s4 b 0 (nd m).length)]) (fun b => [(s4, b, .row 1 (aN (nd m)))]) (fun _ => True)
 case hk => (repeat (first | exact jp.nil | (apply jp.cons; rfl)))
 ·rw [hnow]
  by_cases hs : m.status = 0
  ·rw [if_pos hs]
   repeat' (first | refine W_ ?_ | refine dA ?_ | ((with_reducible apply dL); rfl; rfl; rfl; kernel_rfl; (repeat (first | with_reducible exact mh | with_reducible refine mt ?_)); exact (rfl : _ = 1); omega; (intro bq; (repeat (first | with_reducible exact Upd.head _ | with_reducible apply Upd.tail))); intro bb))
   exact eb _ trivial (.of _ nw_ od_ pk_)
  ·rw [if_neg hs]
   repeat' refine W_ ?_
   exact eb b4 trivial (.of _ nw_ od_ pk_)
 clear hnow
 intro b5 _
 generalize hN0 : nd m = N0 at hnl |-
 have hap1 := rf N0 m.ready
 repeat' (first | refine W_ ?_ | ((with_reducible apply dP); rfl; rfl; rfl; kernel_rfl; (repeat (first | with_reducible exact mh | with_reducible refine mt ?_)); exact aj _; exact hrl2; omega; exact hap1; (intro bq; (repeat (first | with_reducible exact Upd.head _ | with_reducible apply Upd.tail))); intro bb))
 rw [<- List.length_append]
 apply am (X := Nat × Nat × List Int) [0] (fun x => [(5, .int .i64 (x.1 : Int)), (4, .ms s4 x.2.1 0 x.2.2.length)]) (fun x => [(s4, x.2.1, .row 1 (aN x.2.2))]) (fun x => x.1 <= m.store.objects.length /\ x.2.2 = N0 ++ m.ready ++ (m.store.objects.take x.1).flatMap vq) (fun x => m.store.objects.length - x.1) (0, bb, N0 ++ m.ready) ⟨Nat.zero_le _, by simp⟩
 exact kp_; exact nw_
 ·exact .refl _
 rintro ⟨i, b6, A⟩ ⟨hi, hA⟩
 dsimp only at hi hA |-
 have hAl : A.length <= 1 + 1048576 + i * 1048576 := by
   rw [hA, List.length_append, List.length_append]
   have := hsl i hi
   omega
 by_cases hlt : i < m.store.objects.length
 ·have hrow := rF (lo := lo) hlt
  have hsn := oH hlt
  have hol := hnum _ (List.getElem_mem hlt)
  have hse := hsem _ (List.getElem_mem hlt)
  have hA2 : A ++ vq m.store.objects[i] = N0 ++ m.ready ++ (m.store.objects.take (i + 1)).flatMap vq := by rw [hsn, hA, List.append_assoc (N0 ++ m.ready)]
  clear hsn hsem hsl hnum
  generalize m.store.objects[i] = o at hrow hol hse hA2
  obtain ⟨ok, oc, fs, ns⟩ := o
  dsimp only at hrow hol hse
  unfold vq at hA2
  dsimp only at hA2
  have hnl2 := aj ns
  by_cases hk : ok = 3
  ·rw [if_pos hk] at hA2
   have h1 := hse hk
   have hdr := tQ ns 1
   have hdl := aj (ns.drop 1)
   have hdl2 : (ns.drop 1).length <= 1048576 := by rw [List.length_drop]; omega
   have hap := rf A (ns.drop 1)
   repeat' (first | refine W_ ?_ | (refine ak ?_; intro ss bb) | refine ac ?_ | refine aeM ?_ | ((with_reducible apply dP); rfl; rfl; rfl; kernel_rfl; (repeat (first | with_reducible exact mh | with_reducible refine mt ?_)); exact aj _; exact hdl; omega; exact hap; (intro bq; (repeat (first | with_reducible exact Upd.head _ | with_reducible apply Upd.tail))); intro bb))
   rw [<- List.length_append]
   exact ag (i + 1, _, A ++ ns.drop 1) ⟨by dsimp only; omega, hA2⟩ (by dsimp only; omega) (.of _ nw_ od_ pk_)
  ·rw [if_neg hk, List.append_nil] at hA2
   repeat' (first | refine W_ ?_ | (refine ak ?_; intro ss bb) | refine ac ?_)
   exact ag (i + 1, b6, A) ⟨by dsimp only; omega, hA2⟩ (by dsimp only; omega) (.of _ nw_ od_ pk_)
 obtain rfl : i = m.store.objects.length := by omega
 rw [List.take_of_length_le (Nat.le_refl _)] at hA
 have hAe : A = nd m ++ m.ready ++ vW m := by rw [hA, hN0]; rfl
 have hT := afa hAe
 have hF := afj hAe
 generalize alO m = r at hT hF |-
 clear hA hAe hN0 hap1 hsl hsem hnum
 replace hAl : A.length <= 900000000 := by omega
 repeat' refine H_ 11 ?_
 refine ⟨?_⟩
 refine nJ (t := 4) rfl (aj _) (.head _) ?_
 have hll := aj A
 repeat' refine W_ ?_
 apply am (X := Nat) [0, 4] (fun i => [(7, .int .i64 (i : Int))]) (fun _ => []) (fun i => i <= A.length /\ (∀ p ∈ A.take i, 0 <= p /\ p < m.processes.length) /\ (A.take i).Nodup) (fun i => A.length - i) 0 ⟨Nat.zero_le _, by simp, by simp⟩
 exact kp_; exact nw_
 ·exact .refl _
 rintro i ⟨hi, hin, hnd⟩
 try dsimp only
 by_cases hlt : i < A.length
 case neg =>
   obtain rfl : i = A.length := by omega
   rw [List.take_of_length_le (Nat.le_refl _)] at hin hnd
   rw [hT ⟨hin, hnd⟩]
   repeat' refine W_ ?_
   refine ex x_ rfl (.tmp _ _ rfl) (.tmp _ _ rfl) (fun _ => ?_) (fun _ => ?_)
   ·exact Fin.slFlat (Nat.le_refl _) (kP _)
   ·exact Fin.flat rfl
 have hrow := jy hlt
 have hta := aX (p := fun p : Int => 0 <= p /\ p < m.processes.length) hlt hin
 have hns := qd hlt hnd
 have hb1 : ¬ (0 <= A[i] /\ A[i] < m.processes.length) -> r = none := fun h => hF fun k => h (k.1 _ (List.getElem_mem hlt))
 have hb2 : A[i] ∈ A.take i -> r = none := fun h => hF fun k => sI hlt h k.2
 have htk := sM A i
 have hhas := uH (G := GL) w0.heap.size (A.take i) A[i] (by rw [List.length_take]; omega)
 have k1 := bg (G := GL) A[i] 0 ((m.processes.length - 1 : Nat) : Int)
 generalize A[i] = p at hrow hta hns hb1 hb2 hhas k1
 by_cases hr : 0 <= p /\ p < m.processes.length
 case neg =>
   rw [show inR p 0 ((m.processes.length - 1 : Nat) : Int) = false from by simp only [inR, decide_eq_false_iff_not]; omega] at k1
   rw [hb1 hr]
   repeat' (first | refine V_ ?_ | refine ae hG hst (k1) ?_)
   refine ex x_ rfl (.tmp _ _ rfl) (.tmp _ _ rfl) (fun _ => ?_) (fun _ => ?_)
   ·exact .nils 1
   ·exact Fin.flat rfl
 rw [show inR p 0 ((m.processes.length - 1 : Nat) : Int) = true from by simp only [inR, decide_eq_true_eq]; omega] at k1
 by_cases hm : p ∈ A.take i
 ·rw [decide_eq_true hm] at hhas
  rw [hb2 hm]
  repeat' (first | refine V_ ?_ | refine kd ?_ | refine ae hG hst (k1) ?_ | refine ae hG hst (hhas) ?_)
  refine ex x_ rfl (.tmp _ _ rfl) (.tmp _ _ rfl) (fun _ => ?_) (fun _ => ?_)
  ·exact .nils 1
  ·exact Fin.flat rfl
 ·rw [decide_eq_false hm] at hhas
  repeat' (first | refine V_ ?_ | refine kd ?_ | refine ae hG hst (k1) ?_ | refine ae hG hst (hhas) ?_)
  exact ag (i + 1) ⟨by omega, hta hr, hns hm⟩ (by omega) (.of _ nw_ od_ pk_)
theorem abD {l : List Int} (h : aN l = []) : l = [] := by
 cases l with
 | nil => rfl
 | cons a r => simp [aN] at h
theorem nF {G : World -> Prop} (lo : Nat) (l : List Int) (hn : l.length <= 1048576) : CtM Tryz.prog G 226 [.sl lo 1 (aN l)] [] (fun _ : Nat × Nat => True) (fun y => [(y.1, y.2, .row 1 (aN l))]) (fun y => .ms y.1 y.2 0 l.length) := by
 refine aw Tryz.func226 rfl Tryz.ntmps226 rfl rfl rfl fun w0 R gs objsR hG hR => ?_
 obtain rfl := hR.inv0
 clear hR
 have hlen := aj l
 repeat' (first | refine W_ ?_ | ((with_reducible apply adk); rfl; rfl; rfl; kernel_rfl; intro bl hbl) | ((with_reducible apply mo (n := 0)); rfl; rfl; kernel_rfl; kernel_rfl; rfl; kernel_rfl; rfl; rfl; rfl; rfl; intro ss bb) | ((with_reducible apply dL); rfl; rfl; rfl; kernel_rfl; (repeat (first | with_reducible exact mh | with_reducible refine mt ?_)); (first | with_reducible assumption | exact bytR_length _ | exact aj _ | exact strR_length _ | exact List.length_map _ | assumption | rfl); omega; (intro bq; (repeat (first | with_reducible exact Upd.head _ | with_reducible apply Upd.tail))); intro bb) | refine c_ (fun hc => ?_) (fun hc => ?_))
 ·obtain rfl := abD (hbl hc)
  refine d7 2 1 (by decide) rfl fun ss => ?_
  exact av x_ rfl (ss, 0) trivial rfl (.cons _ _ _ _ (.nil R)) (.refl _) (.tmp _ _ rfl) rfl
 ·exact av x_ rfl (_, _) trivial rfl (.cons _ _ _ _ (.nil R)) (.refl _) (.tmp _ _ rfl) rfl
theorem aeA {l2 : Nat} {l : List aC} {i : Nat} (h : i < l.length) : (l.map fun x => [TV.sl l2 1 (aN (dps x))])[i]? = some [.sl l2 1 (aN (dps l[i]))] := aI h
theorem acu {x : aC} {ds : List Int} (h : bX x.instrs = some ds) : dps x = ds := by unfold dps; rw [h]; rfl
theorem acs (lo l2 : Nat) (m : ah) (hsm : m.small 1048576) (hdep : ∀ c ∈ m.base.codes, jz c.instrs = true /\ ∃ ds, bX c.instrs = some ds /\ ds.length = c.instrs.length) (hsd : eg m)
   (hpl : ∀ (i : Nat) (h : i < m.contexts.length), m.contexts[i].mark = 0 -> (0 <= m.contexts[i].code /\ m.contexts[i].code < m.base.codes.length) /\ 0 <= m.contexts[i].pc) (at0 : Int) : Ct Tryz.prog GL 228 [.agg (m.tw lo), .sl l2 1 (m.base.codes.map fun x => [TV.sl l2 1 (aN (dps x))]), .int .i64 at0] (fun _ => .bool (ju m at0)) := by
 refine aq Tryz.func228 rfl Tryz.ntmps228 rfl rfl fun w0 _ hG => ?_
 have hst := dG
 have hlx := ap.len lo m.contexts
 have hxl := hsm.2.2.2.1.1
 have hcl2 := hsm.1.2.1.1
 have hxr := fun (i : Nat) (h : i < m.contexts.length) => cZ (lo := lo) (l := m.contexts) h
 have hdr := fun (i : Nat) (h : i < m.base.codes.length) => aeA (l2 := l2) h
 have hdl : (m.base.codes.map fun x => [TV.sl l2 1 (aN (dps x))]).length = m.base.codes.length := by simp
 have hon := fun (k0 a : Int) h => wv (G := GL) w0.heap.size lo m hxl hsd k0 a h
 have hsx := fun (i : Nat) (h : i < m.contexts.length) => (hsm.2.2.2.1.2 _ (List.getElem_mem h)).2.2.1.1
 have hsi := fun (i : Nat) (h : i < m.base.codes.length) => (hsm.1.2.1.2 _ (List.getElem_mem h)).1
 have k1 := aL (G := GL) at0 0 ((m.contexts.length : Int) - 1)
 generalize (m.base.codes.map fun x => [TV.sl l2 1 (aN (dps x))]) = dd at hdr hdl |-
 unfold ah.tw at hon |-
 by_cases hin : 0 <= at0 /\ at0 < m.contexts.length
 case neg =>
   rw [jC fun h => hin (by
     obtain ⟨c, hc, _⟩ := h
     obtain ⟨h0, h1, _⟩ := km hc
     omega)]
   rw [show inR at0 0 ((m.contexts.length : Int) - 1) = false from by simp only [inR, decide_eq_false_iff_not]; omega] at k1
   by_cases hz : 1 <= m.contexts.length
   ·rw [show (m.contexts.length : Int) - 1 = ((m.contexts.length - 1 : Nat) : Int) by omega] at k1
    repeat' (first | refine W_ ?_ | refine aH ?_ | refine ad hG hst (k1) ?_)
    exact r1_
   ·repeat' (first | refine W_ ?_ | refine aH ?_ | refine ad hG hst (k1) ?_)
    exact r1_
 rw [show inR at0 0 ((m.contexts.length : Int) - 1) = true from by simp only [inR, decide_eq_true_eq]; omega] at k1
 rw [show (m.contexts.length : Int) - 1 = ((m.contexts.length - 1 : Nat) : Int) by omega] at k1
 obtain ⟨u, rfl⟩ : ∃ u : Nat, at0 = u := ⟨at0.toNat, by omega⟩
 have hu : u < m.contexts.length := by omega
 have hru := hxr u hu
 by_cases hm0 : m.contexts[u].mark = 0
 case neg =>
   rw [jC fun h => by
     obtain ⟨c, hc, h0, _⟩ := h
     rw [iN hu] at hc
     cases hc
     exact hm0 h0]
   have hm0' : m.contexts[u].mark ≠ 0 := hm0
   generalize m.contexts[u] = c at hru hm0'
   repeat' (first | refine W_ ?_ | refine aH ?_ | refine ad hG hst (k1) ?_)
   exact r1_
 have hm0' : ¬ m.contexts[u].mark ≠ 0 := fun h => h hm0
 have hiff : dv m (u : Int) ↔ yo m 0 (u : Int) := ⟨fun h => by
   obtain ⟨c, _, _, h3⟩ := h
   exact h3, fun h => ⟨_, iN hu, hm0, h⟩⟩
 clear hm0
 generalize m.contexts[u] = c at hru hm0'
 repeat' (first | refine W_ ?_ | refine aH ?_ | refine ad hG hst (k1) ?_)
 apply am (X := Int × Int) [1, 3] (fun x => [(7, .int .i64 x.1), (8, .int .i64 x.2)]) (fun _ => []) (fun x => (-1 <= x.1 /\ x.1 < m.contexts.length) /\ (dv m (u : Int) ↔ yo m x.2 x.1)) (fun x => (x.1 + 1).toNat) ((u : Int), 0) ⟨by dsimp only; omega, hiff⟩
 exact kp_; exact nw_
 ·exact .refl _
 clear hiff k1 hru hm0'
 rintro ⟨k, less⟩ ⟨hk, hiff⟩
 dsimp only at hk hiff |-
 by_cases hneg : k < 0
 ·rw [qI (hiff.2 (.out _ _ hneg))]
  repeat' refine W_ ?_
  exact r1_
 obtain ⟨n, rfl⟩ : ∃ n : Nat, k = n := ⟨k.toNat, by omega⟩
 have hn : n < m.contexts.length := by omega
 have hrn := hxr n hn
 have hst2 := hiff.trans (mM hn)
 have hsn := hsd n hn
 have hpn := hpl n hn
 have hsz := hsx n hn
 have hot := hon m.contexts[n].sender m.contexts[n].other (by omega)
 clear hxr hpl hon hsd hsx
 have hF : nI m m.contexts[n] less = false -> ju m (u : Int) = false := fun h => jC fun hc => by have := (hst2.1 hc).1; rw [h] at this; cases this
 have hT : nI m m.contexts[n] less = true -> (dv m (u : Int) ↔ yo m 1 m.contexts[n].sender) := fun h => ⟨fun hc => (hst2.1 hc).2, fun hw => hst2.2 ⟨h, hw⟩⟩
 clear hst2
 unfold nI at hF hT
 by_cases hm0 : m.contexts[n].mark = 0
 ·rw [if_pos hm0] at hF hT
  obtain ⟨⟨c0, c1⟩, c2⟩ := hpn hm0
  obtain ⟨q, hq⟩ : ∃ q : Nat, m.contexts[n].code = q := ⟨m.contexts[n].code.toNat, by omega⟩
  obtain ⟨p, hp⟩ : ∃ p : Nat, m.contexts[n].pc = p := ⟨m.contexts[n].pc.toNat, by omega⟩
  have hql : q < m.base.codes.length := by omega
  obtain ⟨_, ds, hds, hdsl⟩ := hdep _ (List.getElem_mem hql)
  have hB := aah (less := less) hq (List.getElem?_eq_getElem hql) hp hds
  have hdq := hdr q hql
  rw [acu hds] at hdq
  have hil := hsi q hql
  rw [hB] at hF hT
  rw [hq, hp] at hrn
  rw [<- hdsl] at hF hT hil
  clear hB hdr hsi hot hds hdep hdsl
  have hol := aj ds
  generalize m.contexts[n] = c at hrn hm0 hsn hT hF hsz
  obtain ⟨mk, cc, pc, sd, ou, hm, ⟨sk, sn, st⟩, slots, stack, values, oth, rt⟩ := c
  dsimp only at hrn hm0 hsn hT hF hsz
  have htl := ab.len lo stack
  by_cases hpl : p < ds.length
  case neg =>
    rw [hF (by rw [decide_eq_false hpl, Bool.false_and])]
    repeat' (first | refine V_ ?_ | (refine ak ?_; intro ss bb) | refine ac ?_)
    exact r1_
  rw [decide_eq_true hpl, Bool.true_and] at hF hT
  have hgp := eU (o := ds) (j := p) (by omega)
  generalize hW : IntKind.i64.wrap (gd ds (p : Int) - less) = W at hF hT
  generalize gd ds (p : Int) = g at hgp hW hF hT
  by_cases hg0 : 0 <= g
  case neg =>
    rw [hF (by rw [decide_eq_false hg0, Bool.false_and])]
    repeat' (first | refine V_ ?_ | (refine ak ?_; intro ss bb) | refine ac ?_)
    exact r1_
  rw [decide_eq_true hg0, Bool.true_and] at hF hT
  have hg0' : ¬ g < 0 := by omega
  by_cases hsW : (stack.length : Int) = W
  case neg =>
    have hsW' : (stack.length : Int) ≠ W := hsW
    rw [hF (decide_eq_false hsW)]
    repeat' (first | refine V_ ?_ | (refine ak ?_; intro ss bb) | refine ac ?_)
    exact r1_
  have hsW' : ¬ (stack.length : Int) ≠ W := fun h => h hsW
  replace hT := hT (decide_eq_true hsW)
  repeat' (first | refine V_ ?_ | (refine ak ?_; intro ss bb) | refine ac ?_)
  exact ag (sd, 1) ⟨by dsimp only; omega, hT⟩ (by dsimp only; omega) (.of _ nw_ od_ pk_)
 rw [if_neg hm0] at hF hT
 clear hpn hdr hsi hdep
 by_cases hm35 : m.contexts[n].mark = 3 \/ m.contexts[n].mark = 5
 ·rw [if_pos hm35] at hF hT
  generalize onB m m.contexts[n].other m.contexts[n].sender = b at hot hF hT
  generalize m.contexts[n] = c at hrn hm0 hm35 hsn hT hot
  rcases hm35 with hm3 | hm5
  ·have hm5 : ¬ c.mark = 5 := by omega
   cases b
   ·rw [hF rfl]
    repeat' (first | refine W_ ?_ | (refine ak ?_; intro ss bb) | refine ac ?_ | refine ad hG hst (hot) ?_)
    exact r1_
   ·repeat' (first | refine W_ ?_ | (refine ak ?_; intro ss bb) | refine ac ?_ | refine ad hG hst (hot) ?_)
    exact ag (c.sender, 1) ⟨by dsimp only; omega, hT rfl⟩ (by dsimp only; omega) (.of _ nw_ od_ pk_)
  ·have hm3 : ¬ c.mark = 3 := by omega
   cases b
   ·rw [hF rfl]
    repeat' (first | refine W_ ?_ | (refine ak ?_; intro ss bb) | refine ac ?_ | refine ad hG hst (hot) ?_)
    exact r1_
   ·repeat' (first | refine W_ ?_ | (refine ak ?_; intro ss bb) | refine ac ?_ | refine ad hG hst (hot) ?_)
    exact ag (c.sender, 1) ⟨by dsimp only; omega, hT rfl⟩ (by dsimp only; omega) (.of _ nw_ od_ pk_)
 ·rw [if_neg hm35] at hT
  have hm3 : ¬ m.contexts[n].mark = 3 := fun h => hm35 (.inl h)
  have hm5 : ¬ m.contexts[n].mark = 5 := fun h => hm35 (.inr h)
  generalize m.contexts[n] = c at hrn hm0 hm3 hm5 hsn hT
  repeat' (first | refine W_ ?_ | (refine ak ?_; intro ss bb) | refine ac ?_)
  exact ag (c.sender, 1) ⟨by dsimp only; omega, hT rfl⟩ (by dsimp only; omega) (.of _ nw_ od_ pk_)
end Go.Proofs.YtigipcbnfeoliaaGreatDoor
