/- Part 19 of the proof: the texts IvK, NiS, NiH. -/
import Derived.Test.YtofnnnpahglfdaaGreatDoorFo3
import Derived.Test.YtofnnnpahglfdaaGreatDoorFo12
import Derived.Test.YtofnnnpahglfdaaGreatDoorFo16
import Derived.Test.YtofnnnpahglfdaaGreatDoorFo9
set_option linter.all false
set_option maxHeartbeats 4000000
set_option maxRecDepth 20000
namespace Go.Proofs.YtofnnnpahglfdaaGreatDoor
open Go Go.RowKit
section
variable {G : World -> Prop}
theorem tn (hst : aB G) (lo : Nat) (ccl cen : TV) (cs : List aA) (mn : Int) (hne : 1 <= cs.length) (hcs : cs.length <= 1048576 /\ ∀ y ∈ cs, aA.small 1048576 y) :
   Ct Tryz.prog G 120 [.agg [ccl, .sl lo 4 (cs.map (aA.tw lo)), cen, .int .i64 mn]] (ac2 cs) := by
 refine am Tryz.func120 rfl Tryz.ntmps120 rfl rfl fun w0 _ hG => ?_
 have hl2 := aA.len lo cs
 have hcl := hcs.1
 have hrep := fun lo => uB (G := G) lo cs.length hne hcl
 repeat' (first | refine H_ 2 ?_ | refine aD ?_ | refine cH ?_ | ((with_reducible apply aG); rfl; kernel_rfl; (repeat (first | exact aF.nil | ((with_reducible apply aF.cons); rfl))); exact hG; exact hrep _; exact .nil _; intro y _; obtain ⟨ss, bb⟩ := y; refine bm ?_))
 refine ⟨?_⟩
 generalize ss = sd; generalize bb = bd
 have hst0 : fy cs 0 (List.replicate cs.length (-1)) = ep cs := rfl
 have hin0 := gu cs.length
 unfold ac2
 generalize ep cs = R at hst0
 generalize List.replicate cs.length (-1 : Int) = o0 at hst0 hin0
 repeat' refine W_ ?_
 apply ak (X := Nat × List Int) [1, 4, 17, 18] (fun x => [(19, .int .i64 (x.1 : Int))]) (fun x => [(sd, bd, .row 1 (aS x.2))]) (fun x => x.1 <= cs.length /\ cE cs.length x.2 /\ fy cs x.1 x.2 = R) (fun x => cs.length - x.1) (0, o0) ⟨Nat.zero_le _, hin0, hst0⟩
 exact kp_; exact nw_
 ·exact .refl _
 clear hin0 hst0
 rintro ⟨i, o⟩ ⟨hi, hin, hR⟩
 dsimp only at hi hin hR |-
 have hol : (aS o).length = cs.length := by rw [ao]; exact hin.1
 by_cases hlt : i < cs.length
 ·have hra := bL (lo := lo) hlt
  have hsm := hcs.2 _ (List.getElem_mem hlt)
  rw [lW hlt] at hR
  generalize cs[i] = c at hra hsm hR
  obtain ⟨cb, cp, csl, is⟩ := c
  dsimp only at hra hR
  have hil := ah.len lo is
  have hisl : is.length <= 1048576 := hsm.1
  repeat' (first | refine W_ ?_ | (refine aj ?_; intro ss bb) | refine ac ?_)
  apply ak (X := Nat × List Int) [1, 4, 5, 17, 18, 19, 25, 26] (fun x => [(27, .int .i64 (x.1 : Int))]) (fun x => [(sd, bd, .row 1 (aS x.2))]) (fun x => x.1 <= is.length /\ cE cs.length x.2 /\ fj cs i (is.drop x.1) x.2 = R) (fun x => is.length - x.1) (0, o) ⟨Nat.zero_le _, hin, hR⟩
  exact kp_; exact nw_
  ·exact pk_
  clear hin hR hol
  rintro ⟨k, o⟩ ⟨hk, hin, hR⟩
  dsimp only at hk hin hR |-
  have hol : (aS o).length = cs.length := by rw [ao]; exact hin.1
  by_cases hlk : k < is.length
  ·have hrk := iS (lo := lo) hlk
   rw [lY hlk] at hR
   generalize is[k] = x at hrk hR
   obtain ⟨op, a, b, t⟩ := x
   unfold abk at hR
   dsimp only at hrk hR
   by_cases h15 : op = 15
   ·rw [if_pos h15] at hR
    have h15' : ¬ op ≠ 15 := fun h => h h15
    by_cases hin2 : 0 <= a /\ a <= (i : Int) - 1
    ·have cin := aN (G := G) a 0 ((i - 1 : Nat) : Int)
     rw [vE (by omega)] at cin
     obtain ⟨q, rfl⟩ : ∃ q : Nat, a = q := ⟨a.toNat, by omega⟩
     have hql : q < o.length := by rw [hin.1]; omega
     have hrq := eY hql
     have hqc : q < cs.length := by omega
     have hrc := bL (lo := lo) hqc
     have hblk := fun o' k' hp hinv => n7 (cs := cs) (i := i) (k := k') (is := is) (o := o') (a := q) hlt hinv hqc hp
     generalize cs[q] = y at hrc hblk
     obtain ⟨yb, yp, ysl, yi⟩ := y
     dsimp only at hrc hblk
     by_cases hg : 0 <= gd o (q : Int)
     ·rw [if_neg fun h => h.2 hg] at hR
      cases yb
      all_goals
        repeat' (first | refine W_ ?_ | (refine aj ?_; intro ss bb) | refine ac ?_ | refine ab hG hst (cin) ?_)
        refine cZ x_ rfl (.tmp _ _ rfl) (.tmp _ _ rfl) (fun _ => ?_) (fun _ => ?_)
        ·exact gH hR.symm
        ·exact eD hR.symm
     ·rw [if_pos ⟨hin2, hg⟩, Int.toNat_natCast] at hR
      dsimp only at hR
      have hset := rU o q (i : Int)
      have hin3 := (mU (n := cs.length) (i := i) (x := ⟨15, q, b, t⟩) (o := o) (o' := o.set q (i : Int)) hlt (by unfold abk; rw [if_pos rfl, if_pos ⟨hin2, hg⟩, Int.toNat_natCast]) hin).1
      cases yb
      case false =>
        have hno := hblk (o.set q (i : Int)) (k + 1) rfl hin3 (by rw [kx hql]; omega)
        rw [hR] at hno
        repeat' (first | refine W_ ?_ | (refine aj ?_; intro ss bb) | refine ac ?_ | refine ab hG hst (cin) ?_)
        refine cZ x_ rfl (.tmp _ _ rfl) (.tmp _ _ rfl) (fun _ => ?_) (fun _ => ?_)
        ·exact gH hno
        ·exact eD hno
      repeat' (first | refine W_ ?_ | (refine aj ?_; intro ss bb) | refine ac ?_ | refine ab hG hst (cin) ?_ | refine bE ?_)
      rw [hset]
      refine ag (k + 1, o.set q (i : Int)) ⟨by dsimp only; omega, hin3, hR⟩ (by dsimp only; omega) (.of _ nw_ od_ pk_)
    ·have cin := aN (G := G) a 0 ((i : Int) - 1)
     have cin' := aN (G := G) a 0 ((i - 1 : Nat) : Int)
     rw [ab3 hin2] at cin
     rw [if_neg fun h => hin2 h.1] at hR
     repeat' (first | refine W_ ?_ | (refine aj ?_; intro ss bb) | refine ac ?_ | refine ab hG hst (cin) ?_)
     refine cZ x_ rfl (.tmp _ _ rfl) (.tmp _ _ rfl) (fun _ => ?_) (fun _ => ?_)
     ·exact gH hR.symm
     ·exact eD hR.symm
   ·rw [if_neg h15] at hR
    dsimp only at hR
    repeat' (first | refine W_ ?_ | (refine aj ?_; intro ss bb) | refine ac ?_)
    refine ag (k + 1, o) ⟨by dsimp only; omega, hin, hR⟩ (by dsimp only; omega) (.of _ nw_ od_ pk_)
  ·rw [mW hlk] at hR
   repeat' refine W_ ?_
   refine ag (i + 1, o) ⟨by dsimp only; omega, hin, hR⟩ (by dsimp only; omega) (.of _ nw_ od_ pk_)
 ·rw [oF hlt] at hR
  repeat' refine W_ ?_
  apply ak (X := Nat) [1, 4, 66, 67] (fun j => [(68, .int .i64 (j : Int))]) (fun _ => [(sd, bd, .row 1 (aS o))]) (fun j => j <= cs.length /\ ∀ q, q < j -> ∀ h : q < cs.length, cs[q].block = decide (0 <= gd o (q : Int))) (fun j => cs.length - j) 0 ⟨Nat.zero_le _, by omega⟩
  exact kp_; exact nw_
  ·exact .refl _
  rintro j ⟨hj, hja⟩
  try dsimp only
  by_cases hlj : j < cs.length
  ·have hra := bL (lo := lo) hlj
   have hrj := eY (o := o) (j := j) (by rw [hin.1]; exact hlj)
   have hbad := pR (o := o) hlj
   have hnx : cs[j].block = decide (0 <= gd o (j : Int)) -> ∀ q, q < j + 1 -> ∀ h : q < cs.length, cs[q].block = decide (0 <= gd o (q : Int)) := fun ho => bS hja fun _ => ho
   generalize cs[j] = c at hra hbad hnx
   obtain ⟨cb, cp, csl, is⟩ := c
   dsimp only at hra hbad hnx
   generalize gd o (j : Int) = v at hrj hbad hnx
   by_cases hb : cb = decide (0 <= v)
   ·repeat' (first | refine V_ ?_ | (refine aj ?_; intro ss bb) | refine ac ?_ | refine c_ (fun hc => ?_) (fun hc => ?_))
    all_goals first
      | exact ag (j + 1) ⟨by omega, hnx hb⟩ (by omega) (.of _ nw_ od_ pk_)
      | (exfalso; simp_all; done)
   ·rw [hbad hb] at hR
    repeat' (first | refine V_ ?_ | (refine aj ?_; intro ss bb) | refine ac ?_ | refine c_ (fun hc => ?_) (fun hc => ?_))
    all_goals first
      | (exfalso; simp_all; done)
      | (refine cZ x_ rfl (.tmp _ _ rfl) (.tmp _ _ rfl) (fun _ => ?_) (fun _ => ?_)
         ·exact gH hR.symm
         ·exact eD hR.symm)
  ·rw [n8 fun q hq => hja q (by omega)] at hR
   repeat' refine W_ ?_
   refine cZ x_ rfl (.tmp _ _ rfl) (.tmp _ _ rfl) (fun _ => ?_) (fun _ => ?_)
   ·exact xT hR.symm hin.1 List.mem_cons_self
   ·exact qu hR.symm
end
theorem acw (X Y Z D R : aH) : de (D ++ (X ++ (Y ++ (Z ++ R)))) (X ++ (Y ++ (Z ++ (D ++ R)))) := by
 simpa using ad2 [X, Y, Z] [R] D
theorem abK (W X Y Z D R : aH) : de (D ++ (W ++ (X ++ (Y ++ (Z ++ R))))) (W ++ (X ++ (Y ++ (Z ++ (D ++ R))))) := by
 simpa using ad2 [W, X, Y, Z] [R] D
theorem ab8 (V W X Y Z D R : aH) : de (D ++ (V ++ (W ++ (X ++ (Y ++ (Z ++ R)))))) (V ++ (W ++ (X ++ (Y ++ (Z ++ (D ++ R)))))) := by
 simpa using ad2 [V, W, X, Y, Z] [R] D
theorem acc (A B C D E F R : aH) : de (A ++ (B ++ (C ++ (D ++ (E ++ (F ++ R)))))) (F ++ (E ++ (D ++ (C ++ (A ++ (B ++ R)))))) := .perm (by
 have h1 : [F, E, D, C, B, A].Perm [A, B, C, D, E, F] := (List.reverse_perm [A, B, C, D, E, F])
 have h2 : [F, E, D, C, A, B].Perm [F, E, D, C, B, A] := ((((List.Perm.swap B A []).cons C).cons D).cons E).cons F
 have h3 := (oe (h2.trans h1)).append_right R
 simpa [List.append_assoc] using h3.symm)
def j0 (k : Int) (x : aJ) : aJ := ⟨mkL bp aI k x.classes, mkL co bB (kL aI k x.classes) x.objects, mkL bM aQ (kL bB (kL aI k x.classes) x.objects) x.output, x.ticks, x.budget, x.made⟩
def dK (k : Int) (x : aJ) : Int := kL aQ (kL bB (kL aI k x.classes) x.objects) x.output
theorem pX {x : aJ} (hb : x.small 1048576) (k : Int) : k <= dK k x /\ dK k x <= k + 6000000000000 := by
 have h1 := bK (k := k) (i := x.classes.length) hb.1.1 (dD hb.1.2) (Nat.le_refl _)
 have h2 := bK (k := kL aI k x.classes) (i := x.objects.length) hb.2.1.1 (jO hb.2.1.2) (Nat.le_refl _)
 have h3 := bK (k := kL bB (kL aI k x.classes) x.objects) (i := x.output.length) hb.2.2.1 (dN x.output) (Nat.le_refl _)
 rw [List.take_length] at h1 h2 h3
 unfold dK
 omega
section
variable {G : World -> Prop}
theorem qD (hst : aB G) (x : aJ) (y : StP) (hy : stI x y) (hb : x.small 1048576) (k : Int) (hk : 0 <= k /\ k <= 60000000000000) :
   CtM Tryz.prog G 52 [.agg (stC x y), .int .i64 k] (stO x y) (fun _ : Unit => True) (fun _ => stO (j0 k x) y) (fun _ => .int .i64 (dK k x)) := by
 refine aC Tryz.func52 rfl Tryz.ntmps52 rfl rfl rfl fun w0 R gs objsR hG hR => ?_
 obtain rfl := hR.eq
 clear hR
 have h1 := bK (k := k) (i := x.classes.length) hb.1.1 (dD hb.1.2) (Nat.le_refl _)
 have h2 := bK (k := kL aI k x.classes) (i := x.objects.length) hb.2.1.1 (jO hb.2.1.2) (Nat.le_refl _)
 rw [List.take_length] at h1 h2
 have c1 := fH hst y.1.1.1 y.1.1.2 x.classes y.1.2 hy.1 k hb.1 (by omega)
 have c2 := nr hst y.2.1.1.1 y.2.1.1.2 x.objects y.2.1.2 hy.2 (kL aI k x.classes) hb.2.1 (by omega)
 have c3 := fm hst y.2.2.1 y.2.2.2 x.output (kL bB (kL aI k x.classes) x.objects) hb.2.2.1 (by omega)
 have e0 : stO x y ++ R = aev x.classes y.1 ++ (afm x.objects y.2.1 ++ ([(y.2.2.1, y.2.2.2, .row 1 (a8 x.output))] ++ R)) := by unfold stO; simp [List.append_assoc]
 have e1 : stO (j0 k x) y ++ R = aev (j0 k x).classes y.1 ++ (afm (j0 k x).objects y.2.1 ++ ([(y.2.2.1, y.2.2.2, .row 1 (a8 (j0 k x).output))] ++ R)) := by unfold stO; simp [List.append_assoc]
 rw [e0]
 generalize hz1 : [(y.2.2.1, y.2.2.2, bj.row 1 (a8 x.output))] = z1 at c3 |-
 unfold stC
 repeat' (first | refine W_ ?_ | refine aD ?_ | ((with_reducible apply aG); rfl; kernel_rfl; (repeat (first | exact aF.nil | ((with_reducible apply aF.cons); rfl))); exact hG; exact c1; exact .app _ _; intro z hz; refine cI (rd _ _ _) ?_) | ((with_reducible apply aG); rfl; kernel_rfl; (repeat (first | exact aF.nil | ((with_reducible apply aF.cons); rfl))); exact hG; exact c2; exact .app _ _; intro z hz; refine cI (rj _ _ _ _) ?_) | ((with_reducible apply aG); rfl; kernel_rfl; (repeat (first | exact aF.nil | ((with_reducible apply aF.cons); rfl))); exact hG; exact c3; exact .app _ _; intro z hz))
 refine av x_ rfl () trivial rfl (.app _ R) ?_ (.tmp _ _ rfl) rfl
 rw [e1]
 exact qx _ _ _ R
def ru (k : Int) (x : ai) : ai := ⟨eo k x.base, j0 (bs k x.base) x.store,
 mkL dz a6 (dK (bs k x.base) x.store) x.blocks,
 mkL bJ aX (kL a6 (dK (bs k x.base) x.store) x.blocks) x.contexts,
 mkL dy bw (kL aX (kL a6 (dK (bs k x.base) x.store) x.blocks) x.contexts) x.processes,
 mkL og fC (kL bw (kL aX (kL a6 (dK (bs k x.base) x.store) x.blocks) x.contexts) x.processes) x.ready,
 x.now, x.status, x.value, x.fault⟩
def nZ (k : Int) (x : ai) : Int := kL fC (kL bw (kL aX (kL a6 (dK (bs k x.base) x.store) x.blocks) x.contexts) x.processes) x.ready
theorem p9 {x : ai} (hb : x.small 1048576) (k : Int) : k <= nZ k x /\ nZ k x <= k + 30000000000000 := by
 have h1 := kX hb.1 k
 have h2 := pX hb.2.1 (bs k x.base)
 unfold nZ
 generalize dK (bs k x.base) x.store = q2 at h2 |-
 have h3 := bK (k := q2) (i := x.blocks.length) hb.2.2.1.1 (iz x.blocks) (Nat.le_refl _)
 rw [List.take_length] at h3
 generalize kL a6 q2 x.blocks = q3 at h3 |-
 have h4 := bK (k := q3) (i := x.contexts.length) hb.2.2.2.1.1 (ip hb.2.2.2.1.2) (Nat.le_refl _)
 rw [List.take_length] at h4
 generalize kL aX q3 x.contexts = q4 at h4 |-
 have h5 := bK (k := q4) (i := x.processes.length) hb.2.2.2.2.1.1 (iE x.processes) (Nat.le_refl _)
 rw [List.take_length] at h5
 generalize kL bw q4 x.processes = q5 at h5 |-
 have h6 := bK (k := q5) (i := x.ready.length) hb.2.2.2.2.2.1 (re x.ready) (Nat.le_refl _)
 rw [List.take_length] at h6
 omega
theorem kr (hst : aB G) (x : ai) (y : oO) (hy : imI x y) (hb : x.small 1048576) (k : Int) (hk : 0 <= k /\ k <= 50000000000000) :
   CtM Tryz.prog G 13 [.agg (imC x y), .int .i64 k] (imO x y) (fun _ : Unit => True) (fun _ => imO (ru k x) y) (fun _ => .int .i64 (nZ k x)) := by
 refine aC Tryz.func13 rfl Tryz.ntmps13 rfl rfl rfl fun w0 R gs objsR hG hR => ?_
 obtain rfl := hR.eq
 clear hR
 have h1 := kX hb.1 k
 have h2 := pX hb.2.1 (bs k x.base)
 have hm : imO (ru k x) y = cbO (eo k x.base) y.1 ++ (stO (j0 (bs k x.base) x.store) y.2.1 ++ ([(y.2.2.1.1, y.2.2.1.2, .row 6 ((mkL dz a6 (dK (bs k x.base) x.store) x.blocks).map (aq.tw 0)))] ++ (aew (mkL bJ aX (kL a6 (dK (bs k x.base) x.store) x.blocks) x.contexts) y.2.2.2.1 ++ ([(y.2.2.2.2.1.1, y.2.2.2.2.1.2, .row 2 ((mkL dy bw (kL aX (kL a6 (dK (bs k x.base) x.store) x.blocks) x.contexts) x.processes).map (au.tw 0)))] ++ [(y.2.2.2.2.2.1, y.2.2.2.2.2.2, .row 1 (aS (mkL og fC (kL bw (kL aX (kL a6 (dK (bs k x.base) x.store) x.blocks) x.contexts) x.processes) x.ready)))])))) := rfl
 rw [hm]
 unfold nZ
 have c1 := mw hst x.base y.1 hy.1 hb.1 k (by omega)
 have c2 := qD hst x.store y.2.1 hy.2.1 hb.2.1 (bs k x.base) (by omega)
 generalize dK (bs k x.base) x.store = q2 at h2 c2 |-
 have h3 := bK (k := q2) (i := x.blocks.length) hb.2.2.1.1 (iz x.blocks) (Nat.le_refl _)
 rw [List.take_length] at h3
 have c3 := mD hst y.2.2.1.1 y.2.2.1.2 x.blocks q2 hb.2.2.1.1 (by omega)
 generalize kL a6 q2 x.blocks = q3 at h3 c3 |-
 have h4 := bK (k := q3) (i := x.contexts.length) hb.2.2.2.1.1 (ip hb.2.2.2.1.2) (Nat.le_refl _)
 rw [List.take_length] at h4
 have c4 := mE hst y.2.2.2.1.1.1 y.2.2.2.1.1.2 x.contexts y.2.2.2.1.2 hy.2.2 q3 hb.2.2.2.1 (by omega)
 generalize kL aX q3 x.contexts = q4 at h4 c4 |-
 have h5 := bK (k := q4) (i := x.processes.length) hb.2.2.2.2.1.1 (iE x.processes) (Nat.le_refl _)
 rw [List.take_length] at h5
 have c5 := mz hst y.2.2.2.2.1.1 y.2.2.2.2.1.2 x.processes q4 hb.2.2.2.2.1.1 (by omega)
 generalize kL bw q4 x.processes = q5 at h5 c5 |-
 have c6 := lM hst y.2.2.2.2.2.1 y.2.2.2.2.2.2 x.ready q5 hb.2.2.2.2.2.1 (by omega)
 have e0 : imO x y ++ R = cbO x.base y.1 ++ (stO x.store y.2.1 ++ ([(y.2.2.1.1, y.2.2.1.2, .row 6 (x.blocks.map (aq.tw 0)))] ++ (aew x.contexts y.2.2.2.1 ++ ([(y.2.2.2.2.1.1, y.2.2.2.2.1.2, .row 2 (x.processes.map (au.tw 0)))] ++ ([(y.2.2.2.2.2.1, y.2.2.2.2.2.2, .row 1 (aS x.ready))] ++ R))))) := by unfold imO; simp only [List.append_assoc]
 rw [e0]
 replace c4 : CtM Tryz.prog G 54 _ (aew x.contexts y.2.2.2.1) _ (fun _ => aew (mkL bJ aX q3 x.contexts) y.2.2.2.1) _ := c4
 clear hm e0
 generalize [(y.2.2.1.1, y.2.2.1.2, bj.row 6 (x.blocks.map (aq.tw 0)))] = z1 at c3 |-
 generalize [(y.2.2.2.2.1.1, y.2.2.2.2.1.2, bj.row 2 (x.processes.map (au.tw 0)))] = z2 at c5 |-
 generalize [(y.2.2.2.2.2.1, y.2.2.2.2.2.2, bj.row 1 (aS x.ready))] = z3 at c6 |-
 unfold cbC at c1
 unfold stC at c2
 unfold imC
 repeat' (first | refine W_ ?_ | refine aD ?_ | ((with_reducible apply aG); rfl; kernel_rfl; (repeat (first | exact aF.nil | ((with_reducible apply aF.cons); rfl))); exact hG; exact c1; exact .app _ _; intro z hz; refine cI (rd _ _ _) ?_) | ((with_reducible apply aG); rfl; kernel_rfl; (repeat (first | exact aF.nil | ((with_reducible apply aF.cons); rfl))); exact hG; exact c2; exact .app _ _; intro z hz; refine cI (rj _ _ _ _) ?_) | ((with_reducible apply aG); rfl; kernel_rfl; (repeat (first | exact aF.nil | ((with_reducible apply aF.cons); rfl))); exact hG; exact c3; exact .app _ _; intro z hz; refine cI (acw _ _ _ _ _) ?_) | ((with_reducible apply aG); rfl; kernel_rfl; (repeat (first | exact aF.nil | ((with_reducible apply aF.cons); rfl))); exact hG; exact c4; exact .app _ _; intro z hz; refine cI (abK _ _ _ _ _ _) ?_) | ((with_reducible apply aG); rfl; kernel_rfl; (repeat (first | exact aF.nil | ((with_reducible apply aF.cons); rfl))); exact hG; exact c5; exact .app _ _; intro z hz; refine cI (ab8 _ _ _ _ _ _ _) ?_) | ((with_reducible apply aG); rfl; kernel_rfl; (repeat (first | exact aF.nil | ((with_reducible apply aF.cons); rfl))); exact hG; exact c6; exact .app _ _; intro z hz))
 refine av x_ rfl () trivial rfl (.app _ R) ?_ (.tmp _ _ rfl) rfl
 simp only [List.append_assoc]
 exact acc _ _ _ _ _ _ R
end
section
variable {G : World -> Prop}
end
end Go.Proofs.YtofnnnpahglfdaaGreatDoor
