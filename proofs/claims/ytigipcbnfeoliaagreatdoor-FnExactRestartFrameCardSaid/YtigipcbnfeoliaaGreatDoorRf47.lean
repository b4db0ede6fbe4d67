/- Part 47 of the proof: the texts RfA, RfB, RfC, RfL. -/
import Derived.Test.YtigipcbnfeoliaaGreatDoorRf7
import Derived.Test.YtigipcbnfeoliaaGreatDoorRf46
import Derived.Test.YtigipcbnfeoliaaGreatDoorRf34
import Derived.Test.YtigipcbnfeoliaaGreatDoorRf45
import Derived.Test.YtigipcbnfeoliaaGreatDoorRf41
import Derived.Test.YtigipcbnfeoliaaGreatDoorRf36
import Derived.Test.YtigipcbnfeoliaaGreatDoorRf19
import Derived.Test.YtigipcbnfeoliaaGreatDoorRf33
set_option linter.all false
set_option maxHeartbeats 4000000
set_option maxRecDepth 20000
namespace Go.Proofs.YtigipcbnfeoliaaGreatDoor
open Go Go.RowKit
theorem ab7 {objs : aF} {s b : Nat} {l l' : List TV} (h : ca objs (.agg l) (.agg l')) (hm : (s, b, aZ.box l) ∈ objs) : ca objs (.mp s b 0) (.cp 0 l') := by
 cases h with
 | same => exact ca.mpSame hm
 | agg l l' hl h => exact .mp s b 0 l l' hm hl h
def frZ (L : List Int) (k : Int) : Int := if inR k 0 ((L.length : Int) - 1) = true then gd L k else -1
section
variable {G : World -> Prop}
theorem jF (hst : ay G) (f lo : Nat) (m : ah) (hsm : m.small 1048576) (hs : eg m) (n : Nat) (hn : m.now = n) (p : ao) (hp : m.processes[n]? = some p) (hat : -1 <= p.at_ /\ p.at_ < m.contexts.length) (k : Int) : Ct Tryz.prog G 37 [.cp f (m.tw lo), .int .i64 k] (fun _ => .int .i64 (frZ (bJ m p.at_) k)) := by
 refine aq Tryz.func37 rfl Tryz.ntmps37 rfl rfl fun w0 _ hG => ?_
 have hct := tX (G := G) f lo m hsm hs n hn p hp hat
 have hfl := gY m p.at_
 have hc1 := hsm.2.2.2.1.1
 generalize bJ m p.at_ = L at hct hfl |-
 have hl1 := aj L
 have hw := bg (G := G) k 0 ((L.length : Int) - 1)
 unfold frZ
 by_cases hin : inR k 0 ((L.length : Int) - 1) = true
 ·have hk : 0 <= k /\ k <= (L.length : Int) - 1 := of_decide_eq_true hin
  obtain ⟨q, rfl⟩ : ∃ q : Nat, k = q := ⟨k.toNat, by omega⟩
  have hq : q < L.length := by omega
  have hrow := eU hq
  rw [hin] at hw
  rw [if_pos hin]
  rw [show (L.length : Int) - 1 = ((L.length - 1 : Nat) : Int) by omega] at hw
  repeat' (first | refine W_ ?_ | refine ad hG hst (hct) ?_ | refine ad hG hst (hw) ?_)
  exact r1_
 ·rw [Bool.eq_false_iff.2 hin] at hw
  rw [if_neg hin]
  by_cases hz : 1 <= L.length
  ·rw [show (L.length : Int) - 1 = ((L.length - 1 : Nat) : Int) by omega] at hw
   repeat' (first | refine W_ ?_ | refine ad hG hst (hct) ?_ | refine ad hG hst (hw) ?_)
   exact r1_
  ·repeat' (first | refine W_ ?_ | refine ad hG hst (hct) ?_ | refine ad hG hst (hw) ?_)
   exact r1_
end
theorem acY {L : List Int} {k : Int} {kn a : Nat} (hk : k = kn) (h : L[kn]? = some (a : Int)) : frZ L k = a := by
 have hl := (List.getElem?_eq_some_iff.1 h).1
 unfold frZ
 rw [if_pos (show inR k 0 ((L.length : Int) - 1) = true from decide_eq_true (by omega))]
 unfold gd
 rw [hk]
 simp [h]
theorem ac5 {L : List Int} {k : Int} (h : inR k 0 ((L.length : Int) - 1) = false) : frZ L k = -1 := by
 unfold frZ
 rw [if_neg (by rw [h]; simp)]
section
variable {S P X O n' v f n s k u w D Z : Nat × Nat × aZ} {A B E F G C N T W R : aF}
theorem aci (h1 : A.Perm ([f, n] ++ F)) (h2 : B.Perm ([s, k, v] ++ E)) : cj (S :: P :: X :: O :: v :: f :: n :: (F ++ (s :: k :: (E ++ G)))) (S :: P :: X :: O :: (A ++ (B ++ G))) := .perm (by
 refine .cons _ (.cons _ (.cons _ (.cons _ ?_)))
 have h := cJ (n := 8) [[f], [n], F, [s], [k], [v], E, G] [5, 0, 1, 2, 3, 4, 6, 7] rfl (by decide)
 have h3 := (h1.append (h2.append_right G)).symm
 simp only [List.append_assoc, List.cons_append, List.nil_append] at h3
 exact List.Perm.trans (by simpa using h) h3)
theorem abU (h1 : A.Perm ([f, n'] ++ F)) (h2 : B.Perm ([s, k, v] ++ E)) : cj (S :: P :: X :: O :: (A ++ (B ++ G))) (n' :: w :: S :: P :: X :: O :: v :: f :: n :: (F ++ (s :: k :: (E ++ G)))) := .trans (.perm (by
 have h3 := h1.append (h2.append_right G)
 simp only [List.append_assoc, List.cons_append, List.nil_append] at h3
 refine List.Perm.trans (.cons _ (.cons _ (.cons _ (.cons _ h3)))) ?_
 have h := cJ (n := 12) [[n'], [S], [P], [X], [O], [v], [f], F, [s], [k], E, G] [1, 2, 3, 4, 6, 0, 7, 8, 9, 5, 10, 11] rfl (by decide)
 simpa using h)) (.sub (.cons_cons n' (.cons w (.cons_cons S (.cons_cons P (.cons_cons X (.cons_cons O (.cons_cons v (.cons_cons f (.cons n (List.Sublist.refl _)))))))))))
theorem abK (h2 : B.Perm ([s, k, v] ++ E)) : cj (S :: P :: X :: O :: v :: (A ++ (s :: k :: (E ++ G)))) (S :: P :: X :: O :: (A ++ (B ++ G))) := .perm (by
 refine .cons _ (.cons _ (.cons _ (.cons _ ?_)))
 have h := cJ (n := 6) [A, [s], [k], [v], E, G] [3, 0, 1, 2, 4, 5] rfl (by decide)
 have h3 := ((h2.append_right G).append_left A).symm
 simp only [List.append_assoc, List.cons_append, List.nil_append] at h3
 exact List.Perm.trans (by simpa using h) h3)
theorem wW (h2 : B.Perm ([s, k, v] ++ E)) : cj (S :: P :: X :: O :: (A ++ (B ++ G))) (w :: S :: P :: X :: O :: v :: (A ++ (s :: k :: (E ++ G)))) := .drop (.perm (by
 refine .cons _ (.cons _ (.cons _ (.cons _ ?_)))
 have h := cJ (n := 6) [[v], A, [s], [k], E, G] [1, 2, 3, 0, 4, 5] rfl (by decide)
 have h3 := (h2.append_right G).append_left A
 simp only [List.append_assoc, List.cons_append, List.nil_append] at h3
 exact h3.trans (by simpa using h)))
theorem abO (h2 : B.Perm ([s, u, v] ++ E)) : cj (X :: S :: P :: s :: u :: D :: Z :: (O :: (A ++ (v :: (E ++ (C ++ (N ++ (T ++ (W ++ R))))))))) (S :: P :: X :: O :: (A ++ (B ++ ((C ++ ((D :: N) ++ T)) ++ (W ++ (Z :: R)))))) := .perm (by
 have h3 := ((h2.append_right ((C ++ ((D :: N) ++ T)) ++ (W ++ (Z :: R)))).append_left A).symm
 refine List.Perm.trans ?_ (.cons _ (.cons _ (.cons _ (.cons _ h3))))
 have h := cJ (n := 16) [[S], [P], [X], [O], A, [s], [u], [v], E, C, [D], N, T, W, [Z], R] [2, 0, 1, 5, 6, 10, 14, 3, 4, 7, 8, 9, 11, 12, 13, 15] rfl (by decide)
 simpa using h)
theorem wV (h2 : B.Perm ([s, k, v] ++ E)) : cj (((O :: A) ++ ((X :: B) ++ (P :: ((C ++ ((D :: N) ++ T)) ++ W)))) ++ R) (s :: X :: k :: S :: P :: u :: D :: Z :: (O :: (A ++ (v :: (E ++ (C ++ (N ++ (T ++ (W ++ R))))))))) := .trans (.perm (by
 have h3 := (((h2.append_right (P :: ((C ++ ((D :: N) ++ T)) ++ W))).cons X).append_left (O :: A)).append_right R
 refine List.Perm.trans h3 ?_
 have h := cJ (n := 14) [[s], [X], [k], [P], [D], [O], A, [v], E, C, N, T, W, R] [5, 6, 1, 0, 2, 7, 8, 3, 9, 4, 10, 11, 12, 13] rfl (by decide)
 simpa using h)) (.sub (.cons_cons s (.cons_cons X (.cons_cons k (.cons S (.cons_cons P (.cons u (.cons_cons D (.cons Z (List.Sublist.refl _))))))))))
variable {Q : Nat × Nat × aZ} {TL : aF}
theorem acf (h1 : A.Perm ([f, n] ++ F)) (h2 : B.Perm ([s, k, v] ++ E)) : cj (S :: O :: v :: X :: Q :: P :: f :: n :: (F ++ (s :: k :: (E ++ G)))) (S :: O :: X :: Q :: P :: (A ++ (B ++ G))) := .perm (by
 refine .cons _ (.cons _ ?_)
 have h := cJ (n := 11) [[X], [Q], [P], [f], [n], F, [s], [k], [v], E, G] [8, 0, 1, 2, 3, 4, 5, 6, 7, 9, 10] rfl (by decide)
 have h3 := (h1.append (h2.append_right G)).symm
 simp only [List.append_assoc, List.cons_append, List.nil_append] at h3
 exact List.Perm.trans (by simpa using h) (.cons _ (.cons _ (.cons _ h3))))
theorem abx (h1 : A.Perm ([f, n'] ++ F)) (h2 : B.Perm ([s, k, v] ++ E)) : cj (S :: O :: X :: Q :: P :: (A ++ (B ++ G))) (n' :: S :: O :: v :: X :: Q :: P :: f :: n :: (F ++ (s :: k :: (E ++ G)))) := .trans (.perm (by
 have h3 := h1.append (h2.append_right G)
 simp only [List.append_assoc, List.cons_append, List.nil_append] at h3
 refine List.Perm.trans (.cons _ (.cons _ (.cons _ (.cons _ (.cons _ h3))))) ?_
 have h := cJ (n := 13) [[n'], [S], [O], [v], [X], [Q], [P], [f], F, [s], [k], E, G] [1, 2, 4, 5, 6, 7, 0, 8, 9, 10, 3, 11, 12] rfl (by decide)
 simpa using h)) (.sub (.cons_cons n' (.cons_cons S (.cons_cons O (.cons_cons v (.cons_cons X (.cons_cons Q (.cons_cons P (.cons_cons f (.cons n (List.Sublist.refl _)))))))))))
theorem wt (h2 : B.Perm ([s, k, v] ++ E)) : (S :: O :: v :: X :: Q :: P :: (A ++ (s :: k :: (E ++ G)))).Perm (S :: O :: X :: Q :: P :: (A ++ (B ++ G))) := by
 refine .cons _ (.cons _ ?_)
 have h := cJ (n := 9) [[X], [Q], [P], A, [s], [k], [v], E, G] [6, 0, 1, 2, 3, 4, 5, 7, 8] rfl (by decide)
 have h3 := ((h2.append_right G).append_left A).symm
 simp only [List.append_assoc, List.cons_append, List.nil_append] at h3
 exact List.Perm.trans (by simpa using h) (.cons _ (.cons _ (.cons _ h3)))
theorem abC (h2 : B.Perm ([s, u, v] ++ E)) : cj (S :: P :: X :: Q :: s :: u :: D :: Z :: (O :: (A ++ (v :: (E ++ (C ++ (N ++ (T ++ (W ++ R))))))))) (S :: O :: X :: Q :: P :: (A ++ (B ++ ((C ++ ((D :: N) ++ T)) ++ (W ++ (Z :: R)))))) := .perm (by
 have h3 := ((h2.append_right ((C ++ ((D :: N) ++ T)) ++ (W ++ (Z :: R)))).append_left A).symm
 refine List.Perm.trans ?_ (.cons _ (.cons _ (.cons _ (.cons _ (.cons _ h3)))))
 have h := cJ (n := 17) [[S], [O], [X], [Q], [P], A, [s], [u], [v], E, C, [D], N, T, W, [Z], R] [0, 4, 2, 3, 6, 7, 11, 15, 1, 5, 8, 9, 10, 12, 13, 14, 16] rfl (by decide)
 simpa using h)
theorem abG : cj (X :: S :: P :: TL) (S :: P :: X :: Q :: TL) := .trans (.perm (List.perm_middle (l₁ := [S, P])).symm) (.sub (.cons_cons S (.cons_cons P (.cons_cons X (.cons Q (List.Sublist.refl _))))))
end
theorem jn (lo : Nat) (m : ah) (hsm : m.small 1048576) (k : Int) : CtM Tryz.prog GL 9 [.agg (m.tw lo), .int .i64 k] [] (imI (aY m k)) (imO (aY m k)) (fun y => .tup [.agg (imC (aY m k) y), .bool (bZ m k)]) := by
 refine aw Tryz.func9 rfl Tryz.ntmps9 rfl rfl rfl fun w0 R gs objsR hG hR => ?_
 obtain rfl := hR.inv0
 clear hR
 have hst := dG
 have hct := qp w0.heap.size lo m hsm
 cases hB : bZ m k with
 | false =>
   have hI : aY m k = zIm := by unfold aY; rw [if_neg (by rw [hB]; simp)]
   rw [hI]
   cases hV : du m with
   | false =>
     rw [hV] at hct
     unfold ah.tw at hct |-
     repeat' (first | refine W_ ?_ | refine aH ?_ | (refine ak ?_; intro ss bb) | refine ej ?_ | refine ac ?_ | refine ad hG hst (hct) ?_)
     refine n6 fun y hy => ?_
     exact cf (t1 := .agg (imC zIm y)) (t2 := .bool false) x_ rfl y hy rfl (.app _ R) (.drop (.refl _)) (.cell _ _ _ _ _ rfl mm_ (by kernel_rfl) (by kernel_rfl) (by kernel_rfl)) (.tmp _ _ rfl) rfl
   | true =>
     rw [hV] at hct
     by_cases h0 : m.status = 0
     ·obtain ⟨hs, n, p, hn, hnl, hp, ha, hl1, hl2⟩ := mU hV
      have hfr := jF hst w0.heap.size lo m hsm hs n hn p hp ⟨hl1, hl2⟩ k
      have hin : inR k 0 (((bJ m p.at_).length : Int) - 1) = false := by
        unfold bZ at hB
        rw [hV, h0, ha] at hB
        simpa using hB
      rw [ac5 hin] at hfr
      have h0' : ¬ m.status ≠ 0 := fun h => h h0
      unfold ah.tw at hct hfr |-
      repeat' (first | refine W_ ?_ | refine aH ?_ | (refine ak ?_; intro ss bb) | refine ej ?_ | refine ac ?_ | refine ad hG hst (hct) ?_ | refine ad hG hst (hfr) ?_)
      refine n6 fun y hy => ?_
      exact cf (t1 := .agg (imC zIm y)) (t2 := .bool false) x_ rfl y hy rfl (.app _ R) (.drop (.refl _)) (.cell _ _ _ _ _ rfl mm_ (by kernel_rfl) (by kernel_rfl) (by kernel_rfl)) (.tmp _ _ rfl) rfl
     ·unfold ah.tw at hct |-
      repeat' (first | refine W_ ?_ | refine aH ?_ | (refine ak ?_; intro ss bb) | refine ej ?_ | refine ac ?_ | refine ad hG hst (hct) ?_)
      refine n6 fun y hy => ?_
      exact cf (t1 := .agg (imC zIm y)) (t2 := .bool false) x_ rfl y hy rfl (.app _ R) (.drop (.refl _)) (.cell _ _ _ _ _ rfl mm_ (by kernel_rfl) (by kernel_rfl) (by kernel_rfl)) (.tmp _ _ rfl) rfl
 | true =>
   obtain ⟨kn, a, n, c, p, x, hi⟩ := qe hB
   rw [hi.img] at hct
   have h0 := hi.st
   have hn := hi.now
   have h0' : ¬ m.status ≠ 0 := fun h => h h0
   have hfr := jF hst w0.heap.size lo m hsm hi.sen n hn p hi.prc hi.lt k
   have hfx := jF hst 0 0 m hsm hi.sen n hn p hi.prc hi.lt k
   rw [acY hi.kk (by rw [<- hi.at_]; exact hi.fr)] at hfr hfx
   have hcp := vM hst w0.heap.size lo m hsm
   have hvw : ∀ {objs : aF} {y : eF}, imI m y -> (∀ o ∈ imO m y, o ∈ objs) -> ca objs (.agg (imC m y)) (.agg (m.tw 0)) := fun h1 h2 => ra h1 h2
   have hfin := hi.eq
   generalize aY m k = FI at hfin |-
   have hcl1 := hsm.2.2.2.1.1
   have hol1 := hsm.2.1.2.1.1
   have hpl1 := hsm.2.2.2.2.1.1
   have hal : a < m.contexts.length := (List.getElem?_eq_some_iff.1 hi.ctx).1
   have hnl : n < m.processes.length := (List.getElem?_eq_some_iff.1 hi.prc).1
   unfold ah.tw at hct hcp hfr hfx hvw |-
   unfold imC at hcp hvw
   repeat' (first | refine H_ 4 ?_ | refine aH ?_ | (refine ak ?_; intro ss bb) | refine ac ?_ | refine ad hG hst (hct) ?_ | refine ad hG hst (hfr) ?_ | ((with_reducible apply aG); rfl; kernel_rfl; (repeat (first | exact aE.nil | ((with_reducible apply aE.cons); rfl))); exact hG; exact hcp; exact .nil _; intro y hy))
   refine ⟨?_⟩
   rename_i s6 b6
   generalize ss = s8; generalize bb = b8
   repeat' (first | refine H_ 5 ?_ | ((with_reducible apply iA); rfl; kernel_rfl; exact hG; exact hst; exact hfx; ((with_reducible apply bS.cons); rfl; exact ab7 (hvw hy fun o h => List.mem_cons_of_mem _ (List.mem_append_left _ h)) List.mem_cons_self); (repeat (first | exact bS.nil | ((with_reducible apply bS.cons); rfl; (first | with_reducible exact ca.same _ | ((with_reducible apply ca.msAll); (repeat (first | with_reducible exact mh | with_reducible refine mt ?_)); (first | with_reducible assumption | exact bytR_length _ | exact aj _ | exact strR_length _ | exact List.length_map _ | assumption | rfl)) | ((with_reducible apply view_code); (repeat (first | with_reducible exact mh | with_reducible refine mt ?_)); (first | with_reducible assumption | exact bytR_length _ | exact aj _ | exact strR_length _ | exact List.length_map _ | assumption | rfl)) | ((with_reducible apply ca.cut); exact ca.cp0 _ _; rfl)))))))
   refine ⟨?_⟩
   obtain ⟨hcb, ⟨hpc, hpo⟩, hpx⟩ := id hy
   have hpm := kQ m m.store.objects m.contexts m.processes y
   rw [tY] at hpm
   have hprow : (m.processes.map (ao.tw 0))[n]? = some [.int .i64 p.at_, .bool p.main] := by rw [List.getElem?_map, hi.prc]; rfl
   have hpql : (m.processes.map (ao.tw 0)).length = m.processes.length := List.length_map _
   have hxrl : (nRg bT m.contexts y.2.2.2.1.2).length = m.contexts.length := fq _ hpx
   obtain ⟨G2, hG2⟩ : ∃ G2 : aF, G2 = cbO m.base y.1 ++ (sQ m y ++ ((s6, b6, .box ah.tz) :: R)) := ⟨_, rfl⟩
   refine bD (objs' := (s8, b8, .box (imC m y)) :: mP y m.processes :: mX y (nRg bT m.contexts y.2.2.2.1.2) :: mO y (nRg ce m.store.objects y.2.1.2.1.2) :: (nOg cI m.store.objects y.2.1.2.1.2 ++ (nOg ci m.contexts y.2.2.2.1.2 ++ G2))) (.perm ?_) ?_
   ·refine .cons _ ?_
    have h := (hpm.symm).append_right ((s6, b6, .box ah.tz) :: R)
    rw [hG2]
    simp only [ab1, xW, List.append_assoc, List.cons_append, List.nil_append] at h
    have h2 := cJ (n := 6) [[mO y (nRg ce m.store.objects y.2.1.2.1.2)], nOg cI m.store.objects y.2.1.2.1.2, [mX y (nRg bT m.contexts y.2.2.2.1.2)], nOg ci m.contexts y.2.2.2.1.2, [mP y m.processes], cbO m.base y.1 ++ (sQ m y ++ ((s6, b6, .box ah.tz) :: R))] [4, 2, 0, 1, 3, 5] rfl (by decide)
    exact List.Perm.trans (by simpa [mO, mX, mP] using h2) h
   rw [hn]
   unfold mP mX mO
   rw [fj m y]
   repeat' refine W_ ?_
   apply am (X := Int × List au × List (Pl × Pl)) [4, 6, 7, 1000000] (fun x => [(8, .int .i64 x.1)])
     (fun x => (s8, b8, .box (imC m y)) :: mP y m.processes :: mX y (nRg bT m.contexts y.2.2.2.1.2) :: mO y (nRg ce x.2.1 x.2.2) :: (nOg cI x.2.1 x.2.2 ++ (nOg ci m.contexts y.2.2.2.1.2 ++ G2)))
     (fun x => (-1 <= x.1 /\ x.1 < m.contexts.length) /\ OnW m a x.1 /\ (x.2.1.length = m.store.objects.length /\ x.2.2.length = m.store.objects.length) /\ fS m a x.1 x.2.1 = fS m a p.at_ m.store.objects) (fun x => (x.1 + 1).toNat) (p.at_, m.store.objects, y.2.1.2.1.2) ⟨hi.lt, hi.onw, ⟨rfl, hpo⟩, rfl⟩
   exact kp_; exact nw_
   ·unfold mP mX mO; rw [fj m y, hn]; exact .refl _
   rintro ⟨q, os, ps⟩ ⟨hq, hon, ⟨hosl, hpsl⟩, hres⟩
   dsimp only at hq hon hosl hpsl hres |-
   by_cases hqa : q = (a : Int)
   ·subst hqa
    rw [oz] at hres
    rw [<- hres] at hfin
    clear hon hres
    obtain ⟨z, E, hz1, hz2, hz3, hz4⟩ := i5 bT ci m.contexts y.2.2.2.1.2 hpx hal
    rw [(List.getElem?_eq_some_iff.1 hi.ctx).2] at hz2 hz3
    have hz6 : (nOg ci m.contexts y.2.2.2.1.2).Perm ([(z.1.1, z.1.2, .row 3 (c.slots.map (ab.tw 0))), (z.2.1.1, z.2.1.2, .row 3 (c.stack.map (ab.tw 0))), (z.2.2.1, z.2.2.2, .row 3 (c.values.map (ab.tw 0)))] ++ E) := hz3
    obtain ⟨cq, hcq, hcx⟩ := hi.cod
    have hcql := (List.getElem?_eq_some_iff.1 hcx).1
    have hcrow := wc cN hcx (List.getElem?_eq_getElem (by rw [hcb.2]; exact hcql))
    have hcdl : (nR cN m.base.codes y.1.2.1.2).length = m.base.codes.length := lG _ hcb.2
    have hcdm := hsm.1.2.1.1
    have hpar := hi.par
    obtain ⟨np, hnp⟩ : ∃ np : Nat, x.params = np := ⟨x.params.toNat, by omega⟩
    have hslm := (hsm.2.2.2.1.2 c (List.mem_of_getElem? hi.ctx)).2.1.1
    unfold cN at hcrow
    obtain ⟨xr, hxr⟩ : ∃ xr, xr = nRg bT m.contexts y.2.2.2.1.2 := ⟨_, rfl⟩
    rw [<- hxr] at hz2 hxrl hz4 |-
    unfold bT at hz2
    rw [hnp] at hcrow hpar hfin
    rw [Int.toNat_natCast] at hfin
    have h5 := fun sk => hz4 ⟨c.mark, c.code, 0, c.sender, c.outer, c.home, c.self, gj c.slots np (c.slots.length - np), [], c.values, c.other, c.retry⟩ (z.1, (sk, 0), z.2.2)
    have hmk : ∀ sk, bT ⟨c.mark, c.code, 0, c.sender, c.outer, c.home, c.self, gj c.slots np (c.slots.length - np), [], c.values, c.other, c.retry⟩ (z.1, (sk, 0), z.2.2) = [.int .i64 c.mark, .int .i64 c.code, .int .i64 0, .int .i64 c.sender, .int .i64 c.outer, .int .i64 c.home, .int .i64 c.self.kind, .int .i64 c.self.number, .str c.self.text, .ms z.1.1 z.1.2 0 c.slots.length, .ms sk 0 0 0, .ms z.2.2.1 z.2.2.2 0 c.values.length, .int .i64 c.other, .bool c.retry] := fun sk => by simp [bT, gM]
    have hob : ∀ sk, ci ⟨c.mark, c.code, 0, c.sender, c.outer, c.home, c.self, gj c.slots np (c.slots.length - np), [], c.values, c.other, c.retry⟩ (z.1, (sk, 0), z.2.2) = [(z.1.1, z.1.2, .row 3 ((gj c.slots np (c.slots.length - np)).map (ab.tw 0))), (sk, 0, .row 3 []), (z.2.2.1, z.2.2.2, .row 3 (c.values.map (ab.tw 0)))] := fun _ => rfl
    simp only [hmk, hob] at h5
    rw [hG2]
    refine bD (abO (D := (y.1.2.1.1.1, y.1.2.1.1.2, .row 4 (nR cN m.base.codes y.1.2.1.2))) (N := nO dN m.base.codes y.1.2.1.2) (C := mF m.base.classes y.1.1) (T := z6 m.base.entries y.1.2.2) hz6) ?_
    have hz5 : ∀ r : List TV, (xr.set a r)[a]? = some r := fun r => List.getElem?_set_self (by omega)
    obtain ⟨TL, hTL⟩ : ∃ TL : aF, TL = mO y (nRg ce os ps) :: (nOg cI os ps ++ ((z.2.2.1, z.2.2.2, .row 3 (c.values.map (ab.tw 0))) :: (E ++ (mF m.base.classes y.1.1 ++ (nO dN m.base.codes y.1.2.1.2 ++ (z6 m.base.entries y.1.2.2 ++ (sQ m y ++ R))))))) := ⟨_, rfl⟩
    rw [<- hTL]
    rw [hcq] at hz2
    unfold mP mX
    rw [fj m y]
    have hz7 := hz5 [.int .i64 c.mark, .int .i64 (cq : Int), .int .i64 0, .int .i64 c.sender, .int .i64 c.outer, .int .i64 c.home, .int .i64 c.self.kind, .int .i64 c.self.number, .str c.self.text, .ms z.1.1 z.1.2 0 c.slots.length, .ms z.2.1.1 z.2.1.2 0 c.stack.length, .ms z.2.2.1 z.2.2.2 0 c.values.length, .int .i64 c.other, .bool c.retry]
    repeat' (first | refine V_ ?_ | refine bm ?_)
    try simp only [List.set_set]
    refine wY a 10 3 (by decide) (hz5 _) rfl fun sk => ?_
    rw [List.set_set]
    dsimp only [List.set]
    rw [<- hcq]
    have h6 := h5 sk
    refine bD (objs' := (z.1.1, z.1.2, .row 3 ((gj c.slots np (np - np)).map (ab.tw 0))) :: mX y (xr.set a [.int .i64 c.mark, .int .i64 c.code, .int .i64 0, .int .i64 c.sender, .int .i64 c.outer, .int .i64 c.home, .int .i64 c.self.kind, .int .i64 c.self.number, .str c.self.text, .ms z.1.1 z.1.2 0 c.slots.length, .ms sk 0 0 0, .ms z.2.2.1 z.2.2.2 0 c.values.length, .int .i64 c.other, .bool c.retry]) :: (sk, 0, .row 3 []) :: (s8, b8, .box (imC m y)) :: mP y m.processes :: (z.2.1.1, z.2.1.2, .row 3 (c.stack.map (ab.tw 0))) :: (y.1.2.1.1.1, y.1.2.1.1.2, .row 4 (nR cN m.base.codes y.1.2.1.2)) :: (s6, b6, .box ah.tz) :: TL) (.perm ?_) ?_
    ·rw [Nat.sub_self, tc]
     exact (List.perm_middle (l₁ := [mX y (xr.set a [.int .i64 c.mark, .int .i64 c.code, .int .i64 0, .int .i64 c.sender, .int .i64 c.outer, .int .i64 c.home, .int .i64 c.self.kind, .int .i64 c.self.number, .str c.self.text, .ms z.1.1 z.1.2 0 c.slots.length, .ms sk 0 0 0, .ms z.2.2.1 z.2.2.2 0 c.values.length, .int .i64 c.other, .bool c.retry]), (sk, 0, .row 3 []), (s8, b8, .box (imC m y)), mP y m.processes])).symm
    apply am (X := Nat) [4, 6, 7, 11, 1000000] (fun i => [(12, .int .i64 (i : Int))])
      (fun i => (z.1.1, z.1.2, .row 3 ((gj c.slots np (i - np)).map (ab.tw 0))) :: mX y (xr.set a [.int .i64 c.mark, .int .i64 c.code, .int .i64 0, .int .i64 c.sender, .int .i64 c.outer, .int .i64 c.home, .int .i64 c.self.kind, .int .i64 c.self.number, .str c.self.text, .ms z.1.1 z.1.2 0 c.slots.length, .ms sk 0 0 0, .ms z.2.2.1 z.2.2.2 0 c.values.length, .int .i64 c.other, .bool c.retry]) :: (sk, 0, .row 3 []) :: (s8, b8, .box (imC m y)) :: mP y m.processes :: (z.2.1.1, z.2.1.2, .row 3 (c.stack.map (ab.tw 0))) :: (y.1.2.1.1.1, y.1.2.1.1.2, .row 4 (nR cN m.base.codes y.1.2.1.2)) :: (s6, b6, .box ah.tz) :: TL)
      (fun i => np <= i /\ i <= c.slots.length) (fun i => c.slots.length - i) np ⟨Nat.le_refl _, by omega⟩
    exact kp_; exact nw_
    ·exact .refl _
    intro i hii
    obtain ⟨hi1, hi2⟩ := hii
    try dsimp only
    unfold mP mX
    rw [fj m y, hn]
    have hz8 := hz5 [.int .i64 c.mark, .int .i64 c.code, .int .i64 0, .int .i64 c.sender, .int .i64 c.outer, .int .i64 c.home, .int .i64 c.self.kind, .int .i64 c.self.number, .str c.self.text, .ms z.1.1 z.1.2 0 c.slots.length, .ms sk 0 0 0, .ms z.2.2.1 z.2.2.2 0 c.values.length, .int .i64 c.other, .bool c.retry]
    by_cases hlt : i < c.slots.length
    ·have hsl : ((gj c.slots np (i - np)).map (ab.tw 0)).length = c.slots.length := by rw [List.length_map, gM]
     have hsr : ∃ v : ab, ((gj c.slots np (i - np)).map (ab.tw 0))[i]? = some [.int .i64 v.kind, .int .i64 v.number, .str v.text] := by
       have h7 : i < (gj c.slots np (i - np)).length := by rw [gM]; exact hlt
       exact ⟨_, aI h7⟩
     obtain ⟨v, hsr⟩ := hsr
     have hss : ((gj c.slots np (i - np)).map (ab.tw 0)).set i [.int .i64 0, .int .i64 0, .str ⟨#[]⟩] = (gj c.slots np (i + 1 - np)).map (ab.tw 0) := by
       have h7 := wZ (l := c.slots) (n := np) (q := i - np) (by omega)
       rw [show np + (i - np) = i by omega, show i - np + 1 = i + 1 - np by omega] at h7
       rw [<- h7, List.map_set]; rfl
     generalize (gj c.slots np (i - np)).map (ab.tw 0) = sr at hsl hsr hss
     repeat' (first | refine W_ ?_ | refine ej ?_ | refine bm ?_)
     exact ag (i + 1) ⟨by omega, by omega⟩ (by omega) (.of _ nw_ od_ (by rw [<- hss]; exact .refl _))
    obtain rfl : i = c.slots.length := by omega
    have hset : (m.processes.map (ao.tw 0)).set n [.int .i64 (a : Int), .bool p.main] = (m.processes.set n ⟨a, p.main⟩).map (ao.tw 0) := by rw [List.map_set]; rfl
    repeat' (first | refine W_ ?_ | refine bm ?_ | refine ac ?_)
    rw [hset, hfin, hTL, <- hn, <- fj m y]
    have hps2 := kQ m os (m.contexts.set a ⟨c.mark, c.code, 0, c.sender, c.outer, c.home, c.self, gj c.slots np (c.slots.length - np), [], c.values, c.other, c.retry⟩) (m.processes.set n ⟨a, p.main⟩) (y.1, (y.2.1.1, (y.2.1.2.1.1, ps), y.2.1.2.2), y.2.2.1, (y.2.2.2.1.1, y.2.2.2.1.2.set a (z.1, (sk, 0), z.2.2)), y.2.2.2.2)
    refine cf (t1 := .agg (imC m y)) (t2 := .bool true) x_ rfl (y.1, (y.2.1.1, (y.2.1.2.1.1, ps), y.2.1.2.2), y.2.2.1, (y.2.2.2.1.1, y.2.2.2.1.2.set a (z.1, (sk, 0), z.2.2)), y.2.2.2.2) ⟨hcb, ⟨hpc, ?_⟩, ?_⟩ rfl (.app _ R) (.trans (.perm (hps2.append_right R)) ?_) (.cell _ _ _ _ _ rfl mm_ (by kernel_rfl) (by kernel_rfl) (by kernel_rfl)) (.tmp _ _ rfl) ?_
    ·show ps.length = os.length; omega
    ·show (List.set _ _ _).length = (List.set _ _ _).length
     rw [List.length_set, List.length_set]; exact hpx
    ·have h9 : xW (m.contexts.set a ⟨c.mark, c.code, 0, c.sender, c.outer, c.home, c.self, gj c.slots np (c.slots.length - np), [], c.values, c.other, c.retry⟩) (y.2.2.2.1.1, y.2.2.2.1.2.set a (z.1, (sk, 0), z.2.2)) = mX y (xr.set a [.int .i64 c.mark, .int .i64 c.code, .int .i64 0, .int .i64 c.sender, .int .i64 c.outer, .int .i64 c.home, .int .i64 c.self.kind, .int .i64 c.self.number, .str c.self.text, .ms z.1.1 z.1.2 0 c.slots.length, .ms sk 0 0 0, .ms z.2.2.1 z.2.2.2 0 c.values.length, .int .i64 c.other, .bool c.retry]) :: nOg ci (m.contexts.set a ⟨c.mark, c.code, 0, c.sender, c.outer, c.home, c.self, gj c.slots np (c.slots.length - np), [], c.values, c.other, c.retry⟩) (y.2.2.2.1.2.set a (z.1, (sk, 0), z.2.2)) := by
       rw [<- h6.1]; rfl
     dsimp only
     rw [h9]
     exact wV (D := (y.1.2.1.1.1, y.1.2.1.1.2, .row 4 (nR cN m.base.codes y.1.2.1.2))) (N := nO dN m.base.codes y.1.2.1.2) (C := mF m.base.classes y.1.1) (T := z6 m.base.entries y.1.2.2) h6.2
    ·simp [imC, ada, hosl]
   cases hon with
   | here => exact absurd rfl hqa
   | up t ht hne hr =>
   rw [oh hi.sen ht hne] at hres
   have hsq := hi.sen t ht
   have hdl := hi.hdl t ht
   obtain ⟨z, E, hz1, hz2, hz3, _⟩ := i5 bT ci m.contexts y.2.2.2.1.2 hpx ht
   have hval := hsm.2.2.2.1.2 _ (List.getElem_mem ht)
   generalize m.contexts[t] = d at hres hsq hdl hz2 hz3 hr hval
   have hz6 : (nOg ci m.contexts y.2.2.2.1.2).Perm ([(z.1.1, z.1.2, .row 3 (d.slots.map (ab.tw 0))), (z.2.1.1, z.2.1.2, .row 3 (d.stack.map (ab.tw 0))), (z.2.2.1, z.2.2.2, .row 3 (d.values.map (ab.tw 0)))] ++ E) := hz3
   unfold bT at hz2
   by_cases h3 : d.mark = 3
   ·obtain ⟨v, u, hv1, hv2, hv3, hv4⟩ := hdl h3
    rw [if_pos h3, show hdN d = u by unfold hdN; rw [hv1]; simp [hv3]] at hres
    have hu : u < os.length := by omega
    obtain ⟨pp, F, hp1, hp2, hp3, hp4⟩ := i5 ce cI os ps (by omega) hu
    have hrl : (nRg ce os ps).length = m.store.objects.length := by rw [fq _ (by omega)]; exact hosl
    unfold acL at hres
    rw [List.getElem?_eq_getElem hu] at hres
    dsimp only at hres
    have hosu : (os.set u (acd os[u])).length = m.store.objects.length := by rw [List.length_set]; exact hosl
    have hmk : ∀ r, ce (acd os[u]) (pp.1, r) = [.int .i64 os[u].kind, .int .i64 os[u].class_, .ms pp.1.1 pp.1.2 0 os[u].fields.length, .ms r.1 r.2 0 3] := fun _ => rfl
    have hob : ∀ r, cI (acd os[u]) (pp.1, r) = [(pp.1.1, pp.1.2, .row 3 (os[u].fields.map (ab.tw 0))), (r.1, r.2, .row 1 (aN [-1, -1, 0]))] := fun _ => rfl
    generalize acd os[u] = o' at hres hosu hmk hob
    generalize os[u] = o at hres hp2 hp3 hmk hob
    have hp6 : (nOg cI os ps).Perm ([(pp.1.1, pp.1.2, .row 3 (o.fields.map (ab.tw 0))), (pp.2.1, pp.2.2, .row 1 (aN o.numbers))] ++ F) := hp3
    obtain ⟨vk, vn, vt⟩ := v
    subst hv2 hv3
    rw [hv1] at hz6
    replace hz6 : (nOg ci m.contexts y.2.2.2.1.2).Perm ([(z.1.1, z.1.2, .row 3 (d.slots.map (ab.tw 0))), (z.2.1.1, z.2.1.2, .row 3 (d.stack.map (ab.tw 0))), (z.2.2.1, z.2.2.2, .row 3 [[.int .i64 6, .int .i64 (u : Int), .str vt]])] ++ E) := hz6
    rw [show d.values.length = 1 by rw [hv1]; rfl] at hz2
    by_cases hc : o.kind = 1 /\ o.numbers.length = 3
    ·rw [if_pos hc] at hres
     obtain ⟨hc1, hc2⟩ := hc
     have hp5 := fun r => hp4 o' (pp.1, r)
     simp only [hmk, hob] at hp5
     refine bD (aci hp6 hz6) ?_
     generalize nRg ce os ps = rows at hp2 hp5 hrl
     unfold ce at hp2
     unfold mP mX mO
     rw [fj m y]
     repeat' (first | refine V_ ?_ | (refine ak ?_; intro ss bb) | refine ac ?_ | (refine iK ?_; intro ss bb) | refine bm ?_)
     refine ag (d.sender, os.set u o', ps.set u (pp.1, ((ss, bb) : Pl))) ⟨by dsimp only; omega, hr, ⟨hosu, by dsimp only; rw [List.length_set]; exact hpsl⟩, hres⟩ (by dsimp only; omega) (.of _ nw_ od_ ?_)
     dsimp only
     rw [(hp5 (ss, bb)).1]
     exact abU (hp5 (ss, bb)).2 hz6
    ·rw [if_neg hc] at hres
     refine bD (abK hz6) ?_
     unfold ce at hp2
     unfold mP mX mO
     rw [fj m y]
     have hc2 : o.kind = 1 -> ¬ o.numbers.length = 3 := fun g1 g2 => hc ⟨g1, g2⟩
     by_cases hk1 : o.kind = 1
     ·have hc3 := hc2 hk1
      repeat' (first | refine V_ ?_ | (refine ak ?_; intro ss bb) | refine ac ?_)
      exact ag (d.sender, os, ps) ⟨by dsimp only; omega, hr, ⟨hosl, hpsl⟩, hres⟩ (by dsimp only; omega) (.of _ nw_ od_ (wW hz6))
     ·repeat' (first | refine V_ ?_ | (refine ak ?_; intro ss bb) | refine ac ?_)
      exact ag (d.sender, os, ps) ⟨by dsimp only; omega, hr, ⟨hosl, hpsl⟩, hres⟩ (by dsimp only; omega) (.of _ nw_ od_ (wW hz6))
   ·rw [if_neg h3] at hres
    unfold mP mX mO
    rw [fj m y]
    repeat' (first | refine W_ ?_ | (refine ak ?_; intro ss bb) | refine ac ?_)
    exact ag (d.sender, os, ps) ⟨by dsimp only; omega, hr, ⟨hosl, hpsl⟩, hres⟩ (by dsimp only; omega) (.of _ nw_ od_ (.drop (.refl _)))
theorem fi (lo : Nat) (m : ah) (hsm : m.small 1048576) (k : Int) : CtM Tryz.prog GL 11 [.agg (m.tw lo), .int .i64 k] [] (imI (aY m k)) (imO (aY m k)) (fun y => .tup [.agg (imC (aY m k) y), .bool (bZ m k)]) := by
 refine aw Tryz.func11 rfl Tryz.ntmps11 rfl rfl rfl fun w0 R gs objsR hG hR => ?_
 obtain rfl := hR.inv0
 clear hR
 have hst := dG
 have hfr := mq lo m hsm
 have hrs := qB hsm
 have hw := aL (G := GL) k 0 (((cm m).length : Int) - 1)
 cases hB : bZ m k with
 | false =>
   have hI : aY m k = zIm := by unfold aY; rw [if_neg (by rw [hB]; simp)]
   rw [hI]
   have hin : inR k 0 (((cm m).length : Int) - 1) = false := by
     unfold cm
     by_cases h1 : du m = true /\ m.status = 0
     ·rw [if_pos h1]
      unfold bZ at hB
      rw [h1.1, h1.2] at hB
      simpa using hB
     ·rw [if_neg h1]
      exact decide_eq_false (by simp; omega)
   rw [hin] at hw
   generalize cm m = L at hfr hw hrs
   unfold ah.tw at hfr |-
   by_cases hz : 1 <= L.length
   ·rw [show (L.length : Int) - 1 = ((L.length - 1 : Nat) : Int) by omega] at hw
    repeat' (first | refine W_ ?_ | refine aH ?_ | (refine ak ?_; intro ss bb) | refine ej ?_ | refine ac ?_ | refine ad hG hst (hw) ?_ | ((with_reducible apply aG); rfl; kernel_rfl; (repeat (first | exact aE.nil | ((with_reducible apply aE.cons); rfl))); exact hG; exact hfr; exact .nil _; intro yf hyf; refine bE ?_))
    refine nB (.drop (.refl _)) ?_
    refine n6 fun y hy => ?_
    exact cf (t1 := .agg (imC zIm y)) (t2 := .bool false) x_ rfl y hy rfl (.app _ R) (.drop (.refl _)) (.cell _ _ _ _ _ rfl mm_ (by kernel_rfl) (by kernel_rfl) (by kernel_rfl)) (.tmp _ _ rfl) rfl
   ·repeat' (first | refine W_ ?_ | refine aH ?_ | (refine ak ?_; intro ss bb) | refine ej ?_ | refine ac ?_ | refine ad hG hst (hw) ?_ | ((with_reducible apply aG); rfl; kernel_rfl; (repeat (first | exact aE.nil | ((with_reducible apply aE.cons); rfl))); exact hG; exact hfr; exact .nil _; intro yf hyf; refine bE ?_))
    refine nB (.drop (.refl _)) ?_
    refine n6 fun y hy => ?_
    exact cf (t1 := .agg (imC zIm y)) (t2 := .bool false) x_ rfl y hy rfl (.app _ R) (.drop (.refl _)) (.cell _ _ _ _ _ rfl mm_ (by kernel_rfl) (by kernel_rfl) (by kernel_rfl)) (.tmp _ _ rfl) rfl
 | true =>
   obtain ⟨kn, a, n, c, p, x, hi⟩ := qe hB
   obtain rfl := hi.kk
   have hn := hi.now
   have hFR : cm m = bJ m (atN m) := by unfold cm; rw [if_pos ⟨hi.img, hi.st⟩]
   have hfe : (cm m)[kn]? = some (a : Int) := by rw [hFR]; exact hi.fr
   have hkl := (List.getElem?_eq_some_iff.1 hfe).1
   have hfe2 : (aN (cm m))[kn]? = some [.int .i64 (a : Int)] := by simp [aN, hfe]
   have hirl := aj (cm m)
   rw [show inR (kn : Int) 0 (((cm m).length : Int) - 1) = true from decide_eq_true (by omega), show ((cm m).length : Int) - 1 = (((cm m).length - 1 : Nat) : Int) by omega] at hw
   have hcp := kY hst lo m hsm
   have hfin := hi.eq
   generalize aY m (kn : Int) = FI at hfin |-
   have hcl1 := hsm.2.2.2.1.1
   have hol1 := hsm.2.1.2.1.1
   have hpl1 := hsm.2.2.2.2.1.1
   have hal : a < m.contexts.length := (List.getElem?_eq_some_iff.1 hi.ctx).1
   have hnl : n < m.processes.length := (List.getElem?_eq_some_iff.1 hi.prc).1
   have hcu := fun a0 a1 a2 a3 a4 a5 a6 a7 a8 a9 a10 a11 a13 a15 a16 a17 a18 a19 => aeH hst 0 0 0 a0 a1 a2 a3 a4 a5 a6 a7 a8 a9 a10 a11 a13 a15 a16 a17 a18 a19 m.processes hpl1 hi.prc
   rw [<- hn] at hcu
   have hpql : (m.processes.map (ao.tw 0)).length = m.processes.length := List.length_map _
   unfold ah.tw at hfr hcp |-
   unfold imC at hcp
   repeat' (first | refine H_ 5 ?_ | refine aH ?_ | (refine ak ?_; intro ss bb) | refine ac ?_ | refine ad hG hst (hw) ?_ | ((with_reducible apply aG); rfl; kernel_rfl; (repeat (first | exact aE.nil | ((with_reducible apply aE.cons); rfl))); exact hG; exact hfr; exact .nil _; intro yf hyf; refine bE ?_) | ((with_reducible apply aG); rfl; kernel_rfl; (repeat (first | exact aE.nil | ((with_reducible apply aE.cons); rfl))); exact hG; exact hcp; exact .nil _; intro y hy))
   refine ⟨?_⟩
   rename_i s6 b6
   generalize ss = s8; generalize bb = b8
   obtain ⟨hcb, ⟨hpc, hpo⟩, hpx⟩ := id hy
   have hpm := kQ m m.store.objects m.contexts m.processes y
   rw [tY] at hpm
   have hxrl : (nRg bT m.contexts y.2.2.2.1.2).length = m.contexts.length := fq _ hpx
   obtain ⟨G2, hG2⟩ : ∃ G2 : aF, G2 = cbO m.base y.1 ++ (sQ m y ++ ((s6, b6, .box ah.tz) :: R)) := ⟨_, rfl⟩
   refine bD (objs' := (s8, b8, .box (imC m y)) :: mO y (nRg ce m.store.objects y.2.1.2.1.2) :: mX y (nRg bT m.contexts y.2.2.2.1.2) :: (yf.1, yf.2, .row 1 (aN (cm m))) :: mP y m.processes :: (nOg cI m.store.objects y.2.1.2.1.2 ++ (nOg ci m.contexts y.2.2.2.1.2 ++ G2))) (.perm ?_) ?_
   ·refine .cons _ ?_
    have h := (hpm.symm).append_right ((yf.1, yf.2, .row 1 (aN (cm m))) :: (s6, b6, .box ah.tz) :: R)
    rw [hG2]
    simp only [ab1, xW, List.append_assoc, List.cons_append, List.nil_append] at h
    have h2 := cJ (n := 9) [[mO y (nRg ce m.store.objects y.2.1.2.1.2)], nOg cI m.store.objects y.2.1.2.1.2, [mX y (nRg bT m.contexts y.2.2.2.1.2)], nOg ci m.contexts y.2.2.2.1.2, [mP y m.processes], cbO m.base y.1, sQ m y, [(yf.1, yf.2, .row 1 (aN (cm m)))], (s6, b6, .box ah.tz) :: R] [0, 2, 7, 4, 1, 3, 5, 6, 8] rfl (by decide)
    exact List.Perm.trans (by simpa [mO, mX, mP] using h2) h
   unfold mP mX mO
   rw [fj m y]
   repeat' (first | refine W_ ?_ | refine ej ?_ | refine aH ?_ | ((with_reducible apply iA); rfl; kernel_rfl; exact hG; exact hst; (case hargs => ((with_reducible apply bS.cons); rfl; exact sX List.mem_cons_self (List.mem_cons_of_mem _ (List.mem_cons_of_mem _ (List.mem_cons_of_mem _ (List.mem_cons_of_mem _ List.mem_cons_self)))) hpql; exact bS.nil)); exact hcu _ _ _ _ _ _ _ _ _ _ _ _ _ _ _ _ _ _))
   apply am (X := Int × List au × List (Pl × Pl)) [1, 4, 6, 7, 8, 1000000] (fun x => [(9, .int .i64 x.1)])
     (fun x => (s8, b8, .box (imC m y)) :: mO y (nRg ce x.2.1 x.2.2) :: mX y (nRg bT m.contexts y.2.2.2.1.2) :: (yf.1, yf.2, .row 1 (aN (cm m))) :: mP y m.processes :: (nOg cI x.2.1 x.2.2 ++ (nOg ci m.contexts y.2.2.2.1.2 ++ G2)))
     (fun x => (-1 <= x.1 /\ x.1 < m.contexts.length) /\ OnW m a x.1 /\ (x.2.1.length = m.store.objects.length /\ x.2.2.length = m.store.objects.length) /\ fS m a x.1 x.2.1 = fS m a p.at_ m.store.objects) (fun x => (x.1 + 1).toNat) (p.at_, m.store.objects, y.2.1.2.1.2) ⟨hi.lt, hi.onw, ⟨rfl, hpo⟩, rfl⟩
   exact kp_; exact nw_
   ·unfold mP mX mO; rw [fj m y]; exact .refl _
   rintro ⟨q, os, ps⟩ ⟨hq, hon, ⟨hosl, hpsl⟩, hres⟩
   dsimp only at hq hon hosl hpsl hres |-
   by_cases hqa : q = (a : Int)
   ·subst hqa
    rw [oz] at hres
    rw [<- hres] at hfin
    clear hon hres
    obtain ⟨z, E, hz1, hz2, hz3, hz4⟩ := i5 bT ci m.contexts y.2.2.2.1.2 hpx hal
    rw [(List.getElem?_eq_some_iff.1 hi.ctx).2] at hz2 hz3
    have hz6 : (nOg ci m.contexts y.2.2.2.1.2).Perm ([(z.1.1, z.1.2, .row 3 (c.slots.map (ab.tw 0))), (z.2.1.1, z.2.1.2, .row 3 (c.stack.map (ab.tw 0))), (z.2.2.1, z.2.2.2, .row 3 (c.values.map (ab.tw 0)))] ++ E) := hz3
    obtain ⟨cq, hcq, hcx⟩ := hi.cod
    have hcql := (List.getElem?_eq_some_iff.1 hcx).1
    have hcrow := wc cN hcx (List.getElem?_eq_getElem (by rw [hcb.2]; exact hcql))
    have hcdl : (nR cN m.base.codes y.1.2.1.2).length = m.base.codes.length := lG _ hcb.2
    have hcdm := hsm.1.2.1.1
    have hpar := hi.par
    obtain ⟨np, hnp⟩ : ∃ np : Nat, x.params = np := ⟨x.params.toNat, by omega⟩
    have hslm := (hsm.2.2.2.1.2 c (List.mem_of_getElem? hi.ctx)).2.1.1
    unfold cN at hcrow
    obtain ⟨xr, hxr⟩ : ∃ xr, xr = nRg bT m.contexts y.2.2.2.1.2 := ⟨_, rfl⟩
    rw [<- hxr] at hz2 hxrl hz4 |-
    unfold bT at hz2
    rw [hnp] at hcrow hpar hfin
    rw [Int.toNat_natCast] at hfin
    have h5 := fun sk => hz4 ⟨c.mark, c.code, 0, c.sender, c.outer, c.home, c.self, gj c.slots np (c.slots.length - np), [], c.values, c.other, c.retry⟩ (z.1, (sk, 0), z.2.2)
    have hmk : ∀ sk, bT ⟨c.mark, c.code, 0, c.sender, c.outer, c.home, c.self, gj c.slots np (c.slots.length - np), [], c.values, c.other, c.retry⟩ (z.1, (sk, 0), z.2.2) = [.int .i64 c.mark, .int .i64 c.code, .int .i64 0, .int .i64 c.sender, .int .i64 c.outer, .int .i64 c.home, .int .i64 c.self.kind, .int .i64 c.self.number, .str c.self.text, .ms z.1.1 z.1.2 0 c.slots.length, .ms sk 0 0 0, .ms z.2.2.1 z.2.2.2 0 c.values.length, .int .i64 c.other, .bool c.retry] := fun sk => by simp [bT, gM]
    have hob : ∀ sk, ci ⟨c.mark, c.code, 0, c.sender, c.outer, c.home, c.self, gj c.slots np (c.slots.length - np), [], c.values, c.other, c.retry⟩ (z.1, (sk, 0), z.2.2) = [(z.1.1, z.1.2, .row 3 ((gj c.slots np (c.slots.length - np)).map (ab.tw 0))), (sk, 0, .row 3 []), (z.2.2.1, z.2.2.2, .row 3 (c.values.map (ab.tw 0)))] := fun _ => rfl
    simp only [hmk, hob] at h5
    have hpsl2 : (m.processes.set n ⟨a, p.main⟩).length = m.processes.length := List.length_set
    have hps1 : (m.processes.set n ⟨a, p.main⟩)[n]? = some ⟨a, p.main⟩ := List.getElem?_set_self hnl
    have hsd := adL hst w0.heap.size s8 b8 m y m.processes rfl hn hi.prc (a : Int)
    have hcx2 := zw hst w0.heap.size s8 b8 m y (m.processes.set n ⟨a, p.main⟩) (by rw [hpsl2]; exact hpl1) hpsl2 hn hps1 (k := a) rfl xr hxrl hal
    rw [hG2]
    refine bD (abC (D := (y.1.2.1.1.1, y.1.2.1.1.2, .row 4 (nR cN m.base.codes y.1.2.1.2))) (N := nO dN m.base.codes y.1.2.1.2) (C := mF m.base.classes y.1.1) (T := z6 m.base.entries y.1.2.2) hz6) ?_
    have hz5 : ∀ r : List TV, (xr.set a r)[a]? = some r := fun r => List.getElem?_set_self (by omega)
    obtain ⟨TL, hTL⟩ : ∃ TL : aF, TL = mO y (nRg ce os ps) :: (nOg cI os ps ++ ((z.2.2.1, z.2.2.2, .row 3 (c.values.map (ab.tw 0))) :: (E ++ (mF m.base.classes y.1.1 ++ (nO dN m.base.codes y.1.2.1.2 ++ (z6 m.base.entries y.1.2.2 ++ (sQ m y ++ R))))))) := ⟨_, rfl⟩
    rw [<- hTL]
    rw [hcq] at hz2
    repeat' (first | refine H_ 13 ?_ | ((with_reducible apply aG); rfl; kernel_rfl; (repeat (first | exact aE.nil | ((with_reducible apply aE.cons); rfl))); exact hG; exact hsd; exact .cons _ _ _ _ (.cons _ _ _ _ (.nil _)); rintro ⟨⟩ -; refine dJ (objs' := _ :: _ :: _ :: _ :: _ :: _ :: _ :: _ :: _) rfl ?_) | ((with_reducible apply aG); rfl; kernel_rfl; (repeat (first | exact aE.nil | ((with_reducible apply aE.cons); rfl))); exact hG; exact hcx2; exact .cons _ _ _ _ (.cons _ _ _ _ (.cons _ _ _ _ (.nil _))); rintro ⟨⟩ -; refine dJ (objs' := _ :: _ :: _ :: _ :: _ :: _ :: _ :: _ :: _) rfl ?_))
    refine ⟨?_⟩
    refine bD abG ?_
    unfold mB mP mX
    rw [fj m y]
    have hz7 := hz5 [.int .i64 c.mark, .int .i64 (cq : Int), .int .i64 0, .int .i64 c.sender, .int .i64 c.outer, .int .i64 c.home, .int .i64 c.self.kind, .int .i64 c.self.number, .str c.self.text, .ms z.1.1 z.1.2 0 c.slots.length, .ms z.2.1.1 z.2.1.2 0 c.stack.length, .ms z.2.2.1 z.2.2.2 0 c.values.length, .int .i64 c.other, .bool c.retry]
    repeat' (first | refine V_ ?_ | refine bm ?_)
    try simp only [List.set_set]
    refine wY a 10 3 (by decide) (hz5 _) rfl fun sk => ?_
    rw [List.set_set]
    dsimp only [List.set]
    rw [<- hcq]
    have h6 := h5 sk
    refine bD (objs' := (z.1.1, z.1.2, .row 3 ((gj c.slots np (np - np)).map (ab.tw 0))) :: mX y (xr.set a [.int .i64 c.mark, .int .i64 c.code, .int .i64 0, .int .i64 c.sender, .int .i64 c.outer, .int .i64 c.home, .int .i64 c.self.kind, .int .i64 c.self.number, .str c.self.text, .ms z.1.1 z.1.2 0 c.slots.length, .ms sk 0 0 0, .ms z.2.2.1 z.2.2.2 0 c.values.length, .int .i64 c.other, .bool c.retry]) :: (sk, 0, .row 3 []) :: (s8, b8, .box (imC m y)) :: mP y (m.processes.set n ⟨a, p.main⟩) :: (z.2.1.1, z.2.1.2, .row 3 (c.stack.map (ab.tw 0))) :: (y.1.2.1.1.1, y.1.2.1.1.2, .row 4 (nR cN m.base.codes y.1.2.1.2)) :: (s6, b6, .box ah.tz) :: TL) (.perm ?_) ?_
    ·rw [Nat.sub_self, tc]
     exact (List.perm_middle (l₁ := [mX y (xr.set a [.int .i64 c.mark, .int .i64 c.code, .int .i64 0, .int .i64 c.sender, .int .i64 c.outer, .int .i64 c.home, .int .i64 c.self.kind, .int .i64 c.self.number, .str c.self.text, .ms z.1.1 z.1.2 0 c.slots.length, .ms sk 0 0 0, .ms z.2.2.1 z.2.2.2 0 c.values.length, .int .i64 c.other, .bool c.retry]), (sk, 0, .row 3 []), (s8, b8, .box (imC m y)), mP y (m.processes.set n ⟨a, p.main⟩)])).symm
    apply am (X := Nat) [4, 7, 10, 1000000] (fun i => [(11, .int .i64 (i : Int))])
      (fun i => (z.1.1, z.1.2, .row 3 ((gj c.slots np (i - np)).map (ab.tw 0))) :: mX y (xr.set a [.int .i64 c.mark, .int .i64 c.code, .int .i64 0, .int .i64 c.sender, .int .i64 c.outer, .int .i64 c.home, .int .i64 c.self.kind, .int .i64 c.self.number, .str c.self.text, .ms z.1.1 z.1.2 0 c.slots.length, .ms sk 0 0 0, .ms z.2.2.1 z.2.2.2 0 c.values.length, .int .i64 c.other, .bool c.retry]) :: (sk, 0, .row 3 []) :: (s8, b8, .box (imC m y)) :: mP y (m.processes.set n ⟨a, p.main⟩) :: (z.2.1.1, z.2.1.2, .row 3 (c.stack.map (ab.tw 0))) :: (y.1.2.1.1.1, y.1.2.1.1.2, .row 4 (nR cN m.base.codes y.1.2.1.2)) :: (s6, b6, .box ah.tz) :: TL)
      (fun i => np <= i /\ i <= c.slots.length) (fun i => c.slots.length - i) np ⟨Nat.le_refl _, by omega⟩
    exact kp_; exact nw_
    ·exact .refl _
    intro i hii
    obtain ⟨hi1, hi2⟩ := hii
    try dsimp only
    unfold mP mX
    rw [fj m y]
    have hz8 := hz5 [.int .i64 c.mark, .int .i64 c.code, .int .i64 0, .int .i64 c.sender, .int .i64 c.outer, .int .i64 c.home, .int .i64 c.self.kind, .int .i64 c.self.number, .str c.self.text, .ms z.1.1 z.1.2 0 c.slots.length, .ms sk 0 0 0, .ms z.2.2.1 z.2.2.2 0 c.values.length, .int .i64 c.other, .bool c.retry]
    by_cases hlt : i < c.slots.length
    ·have hsl : ((gj c.slots np (i - np)).map (ab.tw 0)).length = c.slots.length := by rw [List.length_map, gM]
     have hsr : ∃ v : ab, ((gj c.slots np (i - np)).map (ab.tw 0))[i]? = some [.int .i64 v.kind, .int .i64 v.number, .str v.text] := by
       have h7 : i < (gj c.slots np (i - np)).length := by rw [gM]; exact hlt
       exact ⟨_, aI h7⟩
     obtain ⟨v, hsr⟩ := hsr
     have hss : ((gj c.slots np (i - np)).map (ab.tw 0)).set i [.int .i64 0, .int .i64 0, .str ⟨#[]⟩] = (gj c.slots np (i + 1 - np)).map (ab.tw 0) := by
       have h7 := wZ (l := c.slots) (n := np) (q := i - np) (by omega)
       rw [show np + (i - np) = i by omega, show i - np + 1 = i + 1 - np by omega] at h7
       rw [<- h7, List.map_set]; rfl
     generalize (gj c.slots np (i - np)).map (ab.tw 0) = sr at hsl hsr hss
     repeat' (first | refine W_ ?_ | refine ej ?_ | refine bm ?_)
     exact ag (i + 1) ⟨by omega, by omega⟩ (by omega) (.of _ nw_ od_ (by rw [<- hss]; exact .refl _))
    obtain rfl : i = c.slots.length := by omega
    repeat' (first | refine W_ ?_ | refine ac ?_)
    rw [hfin, hTL, <- fj m y]
    have hps2 := kQ m os (m.contexts.set a ⟨c.mark, c.code, 0, c.sender, c.outer, c.home, c.self, gj c.slots np (c.slots.length - np), [], c.values, c.other, c.retry⟩) (m.processes.set n ⟨a, p.main⟩) (y.1, (y.2.1.1, (y.2.1.2.1.1, ps), y.2.1.2.2), y.2.2.1, (y.2.2.2.1.1, y.2.2.2.1.2.set a (z.1, (sk, 0), z.2.2)), y.2.2.2.2)
    refine cf (t1 := .agg (imC m y)) (t2 := .bool true) x_ rfl (y.1, (y.2.1.1, (y.2.1.2.1.1, ps), y.2.1.2.2), y.2.2.1, (y.2.2.2.1.1, y.2.2.2.1.2.set a (z.1, (sk, 0), z.2.2)), y.2.2.2.2) ⟨hcb, ⟨hpc, ?_⟩, ?_⟩ rfl (.app _ R) (.trans (.perm (hps2.append_right R)) ?_) (.cell _ _ _ _ _ rfl mm_ (by kernel_rfl) (by kernel_rfl) (by kernel_rfl)) (.tmp _ _ rfl) ?_
    ·show ps.length = os.length; omega
    ·show (List.set _ _ _).length = (List.set _ _ _).length
     rw [List.length_set, List.length_set]; exact hpx
    ·have h9 : xW (m.contexts.set a ⟨c.mark, c.code, 0, c.sender, c.outer, c.home, c.self, gj c.slots np (c.slots.length - np), [], c.values, c.other, c.retry⟩) (y.2.2.2.1.1, y.2.2.2.1.2.set a (z.1, (sk, 0), z.2.2)) = mX y (xr.set a [.int .i64 c.mark, .int .i64 c.code, .int .i64 0, .int .i64 c.sender, .int .i64 c.outer, .int .i64 c.home, .int .i64 c.self.kind, .int .i64 c.self.number, .str c.self.text, .ms z.1.1 z.1.2 0 c.slots.length, .ms sk 0 0 0, .ms z.2.2.1 z.2.2.2 0 c.values.length, .int .i64 c.other, .bool c.retry]) :: nOg ci (m.contexts.set a ⟨c.mark, c.code, 0, c.sender, c.outer, c.home, c.self, gj c.slots np (c.slots.length - np), [], c.values, c.other, c.retry⟩) (y.2.2.2.1.2.set a (z.1, (sk, 0), z.2.2)) := by
       rw [<- h6.1]; rfl
     dsimp only
     rw [h9]
     exact wV (D := (y.1.2.1.1.1, y.1.2.1.1.2, .row 4 (nR cN m.base.codes y.1.2.1.2))) (N := nO dN m.base.codes y.1.2.1.2) (C := mF m.base.classes y.1.1) (T := z6 m.base.entries y.1.2.2) h6.2
    ·simp [imC, ada, hosl]
   cases hon with
   | here => exact absurd rfl hqa
   | up t ht hne hr =>
   rw [oh hi.sen ht hne] at hres
   have hsq := hi.sen t ht
   have hdl := hi.hdl t ht
   obtain ⟨z, E, hz1, hz2, hz3, _⟩ := i5 bT ci m.contexts y.2.2.2.1.2 hpx ht
   have hval := hsm.2.2.2.1.2 _ (List.getElem_mem ht)
   generalize m.contexts[t] = d at hres hsq hdl hz2 hz3 hr hval
   have hz6 : (nOg ci m.contexts y.2.2.2.1.2).Perm ([(z.1.1, z.1.2, .row 3 (d.slots.map (ab.tw 0))), (z.2.1.1, z.2.1.2, .row 3 (d.stack.map (ab.tw 0))), (z.2.2.1, z.2.2.2, .row 3 (d.values.map (ab.tw 0)))] ++ E) := hz3
   unfold bT at hz2
   by_cases h3 : d.mark = 3
   ·obtain ⟨v, u, hv1, hv2, hv3, hv4⟩ := hdl h3
    rw [if_pos h3, show hdN d = u by unfold hdN; rw [hv1]; simp [hv3]] at hres
    have hu : u < os.length := by omega
    obtain ⟨pp, F, hp1, hp2, hp3, hp4⟩ := i5 ce cI os ps (by omega) hu
    have hrl : (nRg ce os ps).length = m.store.objects.length := by rw [fq _ (by omega)]; exact hosl
    unfold acL at hres
    rw [List.getElem?_eq_getElem hu] at hres
    dsimp only at hres
    have hosu : (os.set u (acd os[u])).length = m.store.objects.length := by rw [List.length_set]; exact hosl
    have hmk : ∀ r, ce (acd os[u]) (pp.1, r) = [.int .i64 os[u].kind, .int .i64 os[u].class_, .ms pp.1.1 pp.1.2 0 os[u].fields.length, .ms r.1 r.2 0 3] := fun _ => rfl
    have hob : ∀ r, cI (acd os[u]) (pp.1, r) = [(pp.1.1, pp.1.2, .row 3 (os[u].fields.map (ab.tw 0))), (r.1, r.2, .row 1 (aN [-1, -1, 0]))] := fun _ => rfl
    generalize acd os[u] = o' at hres hosu hmk hob
    generalize os[u] = o at hres hp2 hp3 hmk hob
    have hp6 : (nOg cI os ps).Perm ([(pp.1.1, pp.1.2, .row 3 (o.fields.map (ab.tw 0))), (pp.2.1, pp.2.2, .row 1 (aN o.numbers))] ++ F) := hp3
    obtain ⟨vk, vn, vt⟩ := v
    subst hv2 hv3
    by_cases hc : o.kind = 1 /\ o.numbers.length = 3
    ·rw [if_pos hc] at hres
     have hp5 := fun r => hp4 o' (pp.1, r)
     simp only [hmk, hob] at hp5
     refine bD (acf hp6 hz6) ?_
     have hrc := adr hst s8 b8 m y d z ⟨6, u, vt⟩ hv1 rfl rfl _ hrl o pp hp2 hc
     generalize nRg ce os ps = rows at hp5 hrc
     unfold mB mO at hrc
     unfold mP mX mO
     rw [fj m y] at hrc |-
     repeat' (first | refine W_ ?_ | ((with_reducible apply aG); rfl; kernel_rfl; (repeat (first | exact aE.nil | ((with_reducible apply aE.cons); rfl))); exact hG; exact hrc; exact .cons _ _ _ _ (.cons _ _ _ _ (.cons _ _ _ _ (.nil _))); rintro ⟨ss, bb⟩ -; refine dJ (objs' := _ :: _ :: _ :: _ :: _ :: _ :: _ :: _ :: _ :: _) rfl ?_))
     refine ag (d.sender, os.set u o', ps.set u (pp.1, ((ss, bb) : Pl))) ⟨by dsimp only; omega, hr, ⟨hosu, by dsimp only; rw [List.length_set]; exact hpsl⟩, hres⟩ (by dsimp only; omega) (.of _ nw_ od_ ?_)
     dsimp only
     rw [(hp5 (ss, bb)).1]
     exact abx (hp5 (ss, bb)).2 hz6
    ·rw [if_neg hc] at hres
     refine bD (.perm (wt hz6)) ?_
     have hrc := ach hst s8 b8 m y d z ⟨6, u, vt⟩ hv1 rfl rfl _ hrl o pp hp2 hc
     unfold mB mO at hrc
     unfold mP mX mO
     rw [fj m y] at hrc |-
     repeat' (first | refine W_ ?_ | ((with_reducible apply aG); rfl; kernel_rfl; (repeat (first | exact aE.nil | ((with_reducible apply aE.cons); rfl))); exact hG; exact hrc; exact .cons _ _ _ _ (.cons _ _ _ _ (.cons _ _ _ _ (.nil _))); rintro ⟨⟩ -; refine dJ (objs' := _ :: _ :: _ :: _ :: _ :: _ :: _) rfl ?_))
     exact ag (d.sender, os, ps) ⟨by dsimp only; omega, hr, ⟨hosl, hpsl⟩, hres⟩ (by dsimp only; omega) (.of _ nw_ od_ (.perm (wt hz6).symm))
   ·rw [if_neg h3] at hres
    unfold mP mX mO
    rw [fj m y]
    repeat' refine W_ ?_
    exact ag (d.sender, os, ps) ⟨by dsimp only; omega, hr, ⟨hosl, hpsl⟩, hres⟩ (by dsimp only; omega) (.of _ nw_ od_ (.refl _))
theorem io (x : ah) (hb : x.small 9223372036854775807) (q0 : Int) : Ct Tryz.prog GL 3 [.agg (x.tw 0), .int .i64 q0] (fun _ => .bool true) := by
 have hst := dG
 have hto := fun hx => uX hst 0 x hx
 have htw := fun hx => nu hst 0 x hx
 refine aq Tryz.func3 rfl Tryz.ntmps3 rfl rfl fun w0 _ hG => ?_
 have hsp := fun hx => jn w0.heap.size x hx q0
 have him := fun (hx : x.small 1048576) => fi 0 x hx q0
 have him2 := fun (hx : x.small 1048576) => fi w0.heap.size x hx q0
 have heq := fun hx => ql hst 0 w0.heap.size x hx
 have hmk := fun (hx : x.small 1048576) y hy => j3 hst x y hy hx 1 (by omega)
 have hsm : x.small 1048576 -> (aY x q0).small 1048576 := fun h => jE h q0
 have hvw : ∀ {objs : aF} {y : eF}, imI x y -> (∀ o ∈ imO x y, o ∈ objs) -> ca objs (.agg (imC x y)) (.agg (x.tw 0)) := fun h1 h2 => ra h1 h2
 have hnk := fun hx => pX (x := x) hx 1
 have hsz := xy hst 0 x 1048576 (by omega) hb
 generalize aY x q0 = sx at hsp him him2 hsm
 generalize bZ x q0 = vb at hsp him him2
 have hnew := ac4 sx vb
 have hvs : ∀ {objs : aF} {y : eF}, imI sx y -> (∀ o ∈ imO sx y, o ∈ objs) -> ca objs (.agg (imC sx y)) (.agg (sx.tw 0)) := fun h1 h2 => ra h1 h2
 unfold ah.tw at hto htw hsp heq hvw him him2 hsz |-
 unfold imC at hsp him him2 hnew hvs
 repeat' (first | refine H_ 3 ?_ | refine aH ?_ | ((with_reducible apply aG); rfl; kernel_rfl; (repeat (first | exact aE.nil | ((with_reducible apply aE.cons); rfl))); exact hG; exact hsz; exact .nil _; intro y hy; refine bI ?_))
 refine ⟨?_⟩
 by_cases hneg : y < 0
 ·repeat' refine W_ ?_
  exact r1_
 have hx := hy.2.2 (by omega)
 replace hto := hto hx
 replace htw := htw hx
 replace hsp := hsp hx
 replace him := him hx
 replace him2 := him2 hx
 replace heq := heq hx
 replace hnk := hnk hx
 replace hmk := hmk hx
 replace hsm := hsm hx
 have hqs := ql hst 0 0 sx hsm
 clear hb hy hsz
 repeat' (first | refine H_ 6 ?_ | (refine ak ?_; intro ss bb) | refine ac ?_ | refine ad hG hst (hto) ?_ | ((with_reducible apply aG); rfl; kernel_rfl; (repeat (first | exact aE.nil | ((with_reducible apply aE.cons); rfl))); exact hG; exact hsp; exact .nil _; intro ys hys))
 refine ⟨?_⟩
 generalize ss = s4; generalize bb = b4
 repeat' (first | refine H_ 7 ?_ | ((with_reducible apply aG); rfl; kernel_rfl; (repeat (first | exact aE.nil | ((with_reducible apply aE.cons); rfl))); exact hG; exact htw; exact .nil _; intro y hy) | (refine ak ?_; intro ss bb) | refine ac ?_)
 refine ⟨?_⟩
 generalize ss = s5; generalize bb = b5
 have hl1 := hmk y hy
 clear hmk
 unfold imC at hl1 hvw
 repeat' (first | refine H_ 8 ?_ | (refine ak ?_; intro ss bb) | refine ac ?_ | ((with_reducible apply fk); rfl; kernel_rfl; exact hG; exact hst; exact him; ((with_reducible apply bS.cons); rfl; exact hvw hy (fun o h => List.mem_cons_of_mem _ (List.mem_append_left _ h))); (repeat (first | exact bS.nil | ((with_reducible apply bS.cons); rfl; exact ca.same _))); exact hnew; intro yi hyi))
 refine ⟨?_⟩
 generalize ss = s7; generalize bb = b7
 refine bD (ze _ _ _ _ _ _) ?_
 repeat' (first | refine HV_ 10 ?_ | ((with_reducible apply iA); rfl; kernel_rfl; exact hG; exact hst; exact hqs; ((with_reducible apply bS.cons); rfl; exact hvs hyi fun o h => List.mem_cons_of_mem _ (List.mem_cons_of_mem _ (List.mem_cons_of_mem _ (List.mem_append_left _ h)))); ((with_reducible apply bS.cons); rfl; exact hvs hys fun o h => List.mem_cons_of_mem _ (List.mem_cons_of_mem _ (List.mem_cons_of_mem _ (List.mem_append_right _ (List.mem_append_right _ (List.mem_append_left _ h)))))); exact .nil) | refine c_ (fun hc => ?_) (fun hc => ?_))
 all_goals first
   | (exfalso; simp at hc; done)
   | skip
 refine ⟨?_⟩
 repeat' (first | refine HV_ 13 ?_ | refine ae hG hst (hto) ?_ | ((with_reducible apply zB); rfl; kernel_rfl; exact hG; exact hst; exact heq; ((with_reducible apply bS.cons); rfl; exact hvw hy fun o h => List.mem_cons_of_mem _ (List.mem_cons_of_mem _ (List.mem_cons_of_mem _ (List.mem_append_right _ (List.mem_append_left _ h))))); (repeat (first | exact bS.nil | ((with_reducible apply bS.cons); rfl; exact ca.same _)))))
 all_goals first
   | (exfalso; simp at hc; done)
   | skip
 refine ⟨?_⟩
 repeat' refine W_ ?_
 refine lh (.perm (acM _ _ _ _ (imO x y) _)) ?_
 repeat' (first | refine HV_ 16 ?_ | ((with_reducible apply aG); rfl; kernel_rfl; (repeat (first | exact aE.nil | ((with_reducible apply aE.cons); rfl))); exact hG; exact hl1; exact .app _ _; rintro ⟨⟩ -; refine cL (.perm (acM _ _ _ _ _ _).symm) ?_) | ((with_reducible apply iA); rfl; kernel_rfl; exact hG; exact hst; exact hqs; ((with_reducible apply bS.cons); rfl; exact hvs hyi fun o h => List.mem_cons_of_mem _ (List.mem_cons_of_mem _ (List.mem_cons_of_mem _ (List.mem_append_left _ h)))); ((with_reducible apply bS.cons); rfl; exact hvs hys fun o h => List.mem_cons_of_mem _ (List.mem_cons_of_mem _ (List.mem_cons_of_mem _ (List.mem_append_right _ (List.mem_append_right _ (List.mem_append_left _ h)))))); exact .nil) | refine c_ (fun hc => ?_) (fun hc => ?_))
 all_goals first
   | (exfalso; simp at hc; done)
   | skip
 refine ⟨?_⟩
 have hl2 := j3 hst sx yi hyi hsm 1 (by omega)
 unfold imC at hl2
 repeat' refine W_ ?_
 refine lh (.perm (acD _ _ _ (imO sx yi) _)) ?_
 repeat' (first | refine H_ 18 ?_ | ((with_reducible apply aG); rfl; kernel_rfl; (repeat (first | exact aE.nil | ((with_reducible apply aE.cons); rfl))); exact hG; exact hl2; exact .app _ _; rintro ⟨⟩ -; refine cL (.perm (acD _ _ _ _ _).symm) ?_))
 refine ⟨?_⟩
 have hhd := vT hst 0 sx hsm 1 (by omega)
 have hkS := pX (x := sx) hsm 1
 have hvm : ∀ {objs : aF}, (∀ o ∈ imO (fh 1 sx) yi, o ∈ objs) -> ca objs (.agg (imC sx yi)) (.agg ((fh 1 sx).tw 0)) := fun h => abW hyi h
 unfold imC at hvm
 generalize iB 1 sx = kq at hhd hkS |-
 repeat' (first | refine H_ 24 ?_ | ((with_reducible apply iA); rfl; kernel_rfl; exact hG; exact hst; exact hhd; ((with_reducible apply bS.cons); rfl; exact hvm fun o h => List.mem_cons_of_mem _ (List.mem_cons_of_mem _ (List.mem_cons_of_mem _ (List.mem_append_left _ h)))); ((with_reducible apply bS.cons); rfl; exact ca.same _); exact bS.nil))
 all_goals first
   | (exfalso; simp at hc; done)
   | skip
 refine ⟨?_⟩
 repeat' (first | refine H_ 25 ?_ | (refine ak ?_; intro ss bb) | refine ac ?_ | refine ad hG hst (hto) ?_ | ((with_reducible apply fk); rfl; kernel_rfl; exact hG; exact hst; exact him2; ((repeat (first | exact bS.nil | ((with_reducible apply bS.cons); rfl; (first | with_reducible exact ca.same _ | ((with_reducible apply ca.msAll); (repeat (first | with_reducible exact mh | with_reducible refine mt ?_)); (first | with_reducible assumption | exact bytR_length _ | exact aj _ | exact strR_length _ | exact List.length_map _ | assumption | rfl)) | ((with_reducible apply view_code); (repeat (first | with_reducible exact mh | with_reducible refine mt ?_)); (first | with_reducible assumption | exact bytR_length _ | exact aj _ | exact strR_length _ | exact List.length_map _ | assumption | rfl)) | ((with_reducible apply ca.cut); exact ca.cp0 _ _; rfl)))))); exact hnew; intro yj hyj))
 refine ⟨?_⟩
 generalize ss = s9; generalize bb = b9
 refine bD (aao _ _ _ _ _ _) ?_
 repeat' (first | refine HV_ 28 ?_ | ((with_reducible apply iA); rfl; kernel_rfl; exact hG; exact hst; exact hqs; ((with_reducible apply bS.cons); rfl; exact hvs hyj fun o h => List.mem_cons_of_mem _ (List.mem_cons_of_mem _ (List.mem_cons_of_mem _ (List.mem_cons_of_mem _ (List.mem_append_left _ h))))); ((with_reducible apply bS.cons); rfl; exact hvs hys fun o h => List.mem_cons_of_mem _ (List.mem_cons_of_mem _ (List.mem_cons_of_mem _ (List.mem_cons_of_mem _ (List.mem_append_right _ (List.mem_append_right _ (List.mem_append_right _ (List.mem_append_left _ h)))))))); exact .nil) | refine c_ (fun hc => ?_) (fun hc => ?_))
 all_goals first
   | (exfalso; simp at hc; done)
   | skip
 refine ⟨?_⟩
 repeat' (first | refine W_ ?_ | ((with_reducible apply iA); rfl; kernel_rfl; exact hG; exact hst; exact hhd; ((with_reducible apply bS.cons); rfl; exact hvm fun o h => List.mem_cons_of_mem _ (List.mem_cons_of_mem _ (List.mem_cons_of_mem _ (List.mem_cons_of_mem _ (List.mem_append_right _ (List.mem_append_left _ h)))))); ((with_reducible apply bS.cons); rfl; exact ca.same _); exact bS.nil))
 all_goals first
   | (exact r1_)
   | (exfalso; simp at hc; done)
theorem ee (w : World) (t : PT) (x : ah) (hat : fU t x) (hsee : gG w (· < w.heap.size) t) (hx : x.sane) (q0 : Int) (_ : i64 q0) (hm : sS w) : Calls Tryz.prog 3 #[.agg t.cells.toArray, .int .i64 q0] w fun e w' => e = .returned (.bool true) /\ Below w.heap.size w w' := by
 have h0 : 0 < w.heap.size := by
   obtain ⟨m, hm⟩ := hm
   have := World.block_lt_of_cell? w _ hm
   omega
 have hok := adh w _ _ hsee
 have hsm := vi hat hsee hx
 rw [aaJ hat] at hok
 refine (io x hsm q0 w _ h0 hm rfl ?_).mono ?_
 ·intro i t v h1 h2
  match i, h1, h2 with
  | 0, h1, h2 =>
    cases h1; cases h2
    exact .agg _ _ hok.2.1 (by simpa using hok.1) (fun i t v ht hv => hok.2.2 i t v ht (by simpa using hv))
  | 1, h1, h2 =>
    cases h1; cases h2
    first
      | exact .int _
      | exact .int _ _
      | exact .int
      | constructor
 ·rintro e w' ⟨v, rfl, hb, hr⟩
  have := (hr 0 (Nat.zero_le _)).bool_inv
  subst this
  exact ⟨rfl, hb⟩
end Go.Proofs.YtigipcbnfeoliaaGreatDoor
