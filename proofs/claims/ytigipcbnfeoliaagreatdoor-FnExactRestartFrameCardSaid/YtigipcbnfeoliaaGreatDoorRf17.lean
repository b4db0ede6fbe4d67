/- Part 17 of the proof: the texts SdF, IvQ, IvR, IvT, IvJ. -/
import Derived.Test.YtigipcbnfeoliaaGreatDoorRf7
import Derived.Test.YtigipcbnfeoliaaGreatDoorRf13
import Derived.Test.YtigipcbnfeoliaaGreatDoorRf14
import Derived.Test.YtigipcbnfeoliaaGreatDoorRf3
import Derived.Test.YtigipcbnfeoliaaGreatDoorRf4
set_option linter.all false
set_option maxHeartbeats 4000000
set_option maxRecDepth 20000
namespace Go.Proofs.YtigipcbnfeoliaaGreatDoor
open Go Go.RowKit
theorem pR {op : Int} {o : Nat} (h : o ∈ cQ op) : o = 1 \/ o = 2 := by
 unfold cQ at h
 repeat' split at h
 all_goals first
   | (simp at h; done)
   | (simp at h; omega)
   | skip
theorem rT (op : Int) : (cQ op).length <= 2 := by
 unfold cQ
 repeat' split
 all_goals simp
theorem nr (op : Int) (s b : Nat) : (xg op s b).length = (cQ op).length := by simp [xg]
theorem we {op : Int} {s b q : Nat} (h : q < (cQ op).length) : (xg op s b)[q]? = some [.mp s b (cQ op)[q]] := by simp [xg, h]
def pE (a b : Int) (o : Nat) : Int := if o = 1 then a else b
theorem rH (op a b : Int) (t : ByteArray) : ai.labs ⟨op, a, b, t⟩ = (cQ op).map (pE a b) := ady op a b t
theorem wR {α : Type} {p : α -> Bool} {l : List α} {q : Nat} (h : q < l.length) (ha : (l.take q).all p = true) : (l.take (q + 1)).all p = p l[q] := by
 rw [List.take_add_one, List.all_append, ha, List.getElem?_eq_getElem h]; simp
theorem zM {α : Type} {p : α -> Bool} {l : List α} {q : Nat} (h : q < l.length) (hb : p l[q] = false) : l.all p = false := by
 rw [List.all_eq_false]; exact ⟨_, List.getElem_mem h, by rw [hb]; simp⟩
theorem yq (n : Nat) (p d : Int) (r : List (Int × Int)) (ds : List Int) (q : List Nat) : gA n ((p, d) :: r) (ds, q) = if ul n ds p d then none else if gd ds p < 0 then gA n r (ds.set p.toNat d, q ++ [p.toNat]) else gA n r (ds, q) := rfl
def yE (op : Int) (t : ByteArray) : Bool := !inR op 1 26 || ((decide (op = 13) || decide (op = 14)) && decide (bY t.data.toList < 0))
theorem tk (n : Nat) (op a b : Int) (t : ByteArray) : dI n ⟨op, a, b, t⟩ = (!yE op t && ((cQ op).all fun o => inR (pE a b o) 0 ((n : Int) - 1))) := by
 unfold dI yE
 rw [rH, List.all_map]
 have h1 : decide (0 <= bY t.data.toList) = !decide (bY t.data.toList < 0) := by
   rw [<- decide_not]; exact decide_eq_decide.2 (by omega)
 rw [h1]
 cases inR op 1 26 <;> cases decide (op = 13) <;> cases decide (op = 14) <;> cases decide (bY t.data.toList < 0) <;> rfl
theorem js {G : World -> Prop} (hst : ay G) (hca : ∀ s : ByteArray, s.size <= 1048576 -> Ct Tryz.prog G 219 [.str s] (fun _ => .int .i64 (bY s.data.toList)))
   (l2 : Nat) (bl : Bool) (pr sl : Int) (is : List ai) (hn : is.length <= 1048576) (ht : ∀ i ∈ is, i.text.size <= 1048576) :
   CtM Tryz.prog G 220 [.agg [.bool bl, .int .i64 pr, .int .i64 sl, .sl l2 4 (d9 is)]] [] (fun _ : Nat × Nat => True) (dO (bX is)) (dR (bX is)) := by
 refine aw Tryz.func220 rfl Tryz.ntmps220 rfl rfl rfl fun w0 R gs objsR hG hR => ?_
 obtain rfl := hR.inv0
 clear hR
 have hlen := kp is
 by_cases hz : is.length = 0
 ·have hd : bX is = none := by unfold bX; rw [if_pos hz]
  rw [hd]
  repeat' (first | refine W_ ?_ | refine aH ?_)
  refine d7 2 1 (by omega) rfl fun ss => cf x_ rfl (ss, 0) trivial rfl (.cons _ _ _ _ (.nil R)) pk_ (.tmp _ _ rfl) (.tmp _ _ rfl) rfl
 have hnz : 0 < is.length := by omega
 have hc1 : ((is.length - 1 : Nat) : Int) = (is.length : Int) - 1 := by omega
 have hnone : jz is = false -> bX is = none := fun h => by unfold bX; rw [h]; simp
 repeat' (first | refine W_ ?_ | refine aH ?_)
 apply am (X := Nat) [1, 4, 26, 1000000] (fun i => [(27, .int .i64 (i : Int))]) (fun _ => R) (fun i => i <= is.length /\ (is.take i).all (dI is.length) = true) (fun i => is.length - i) 0 ⟨Nat.zero_le _, rfl⟩
 exact kp_; exact nw_
 ·exact .refl _
 rintro i ⟨hi, hall⟩
 try dsimp only
 by_cases hlt : i < is.length
 ·have hii : (d9 is)[i]? = some (is[i]).tv := by simp only [d9, List.getElem?_map]; rw [List.getElem?_eq_getElem hlt]; rfl
  have htk := wR hlt hall
  have hbad := fun h => hnone (zM (p := dI is.length) hlt h)
  have hti := ht _ (List.getElem_mem hlt)
  generalize is[i] = ii at hii hti htk hbad
  obtain ⟨op, a, b, t⟩ := ii
  rw [tk] at htk hbad
  replace hii : (d9 is)[i]? = some [.int .i64 op, .int .i64 a, .int .i64 b, .str t] := hii
  replace hti : t.size <= 1048576 := hti
  repeat' (first | refine H_ 8 ?_ | (refine ak ?_; intro ss bb) | refine ac ?_)
  refine ⟨dq ?_⟩
  generalize ss = s6; generalize bb = b6
  apply fx (X := Unit) [1, 4, 6, 26, 27, 1000000] (fun _ => [(54, .bool (yE op t))]) (fun _ => (s6, b6, .box [.int .i64 op, .int .i64 a, .int .i64 b, .str t]) :: R) (fun _ => True)
  case hk => (repeat (first | exact jp.nil | (apply jp.cons; rfl)))
  ·clear hbad htk hall hii ht
   repeat' (first | refine W_ ?_ | refine ad hG hst (aL _ _ _) ?_ | refine ad hG hst (hca _ hti) ?_ | refine g_ (fun hg => ?_) (fun hg => ?_))
   all_goals
     refine eb () trivial (.of _ (cD.envCons (jB rfl ?_) cD.envNil) od_ pk_)
     first
       | (simp [yE, *]; done)
       | (simp [yE, *]; simp [inR]; done)
  intro _ _
  by_cases hb1 : yE op t = true
  ·have hd := hbad (by rw [hb1]; rfl)
   rw [hb1, hd]
   repeat' (first | with_reducible refine dc rfl ?_ | ((with_reducible first | apply o_move | apply mN); rfl; rfl) | with_reducible refine dq ?_ | with_reducible refine cB ?_ | with_reducible refine fO ?_ | with_reducible refine dX ?_ | with_reducible refine cR ?_ | with_reducible refine dT ?_ | with_reducible refine dW ?_ | with_reducible refine fI ?_ | with_reducible refine bB ?_ | with_reducible refine aq_block_miss rfl ?_ | with_reducible refine bC ?_ | with_reducible refine bH ?_ | with_reducible refine bz ?_ | with_reducible refine db ?_ | refine cw rfl rr_ ?_ | refine cx rfl rr_ ?_ | (refine bV rfl rr_ dd_ ?_) | (refine bW rfl rr_ dd_ ?_) | (refine eu rfl rr_ (fun hc => ?_) (fun hc => ?_)) | (refine df rfl rr_ (fun hc => ?_) (fun hc => ?_)))
   refine d7 2 1 (by omega) rfl fun ss => cf x_ rfl (ss, 0) trivial rfl (.cons _ _ _ _ (.nil R)) pk_ (.tmp _ _ rfl) (.tmp _ _ rfl) rfl
  rw [Bool.not_eq_true] at hb1
  rw [hb1] at htk hbad
  simp only [Bool.not_false, Bool.true_and] at htk hbad
  rw [hb1]
  have hlr := nr op s6 b6
  have hol := rT op
  repeat' (first | refine W_ ?_ | ((with_reducible apply aG); rfl; kernel_rfl; (repeat (first | exact aE.nil | ((with_reducible apply aE.cons); rfl))); exact hG; exact oC s6 b6 op a b t; exact .cons _ _ _ _ (.nil _); intro y _; obtain ⟨sl5, bl5⟩ := y; refine aa6 ?_))
  apply am (X := Nat) [1, 4, 26, 27, 55, 56, 1000000] (fun q => [(57, .int .i64 (q : Int))]) (fun _ => (sl5, bl5, .row 1 (xg op s6 b6)) :: (s6, b6, .box [.int .i64 op, .int .i64 a, .int .i64 b, .str t]) :: R) (fun q => q <= (cQ op).length /\ ((cQ op).take q).all (fun o => inR (pE a b o) 0 ((is.length : Int) - 1)) = true) (fun q => (cQ op).length - q) 0 ⟨Nat.zero_le _, rfl⟩
  exact kp_; exact nw_
  ·exact .refl _
  rintro q ⟨hq, hqa⟩
  try dsimp only
  by_cases hql : q < (cQ op).length
  ·have hrow := we (s := s6) (b := b6) hql
   have hqk := wR hql hqa
   have hqb := fun h => hbad (zM (p := fun o => inR (pE a b o) 0 ((is.length : Int) - 1)) hql h)
   have hmem := pR (List.getElem_mem hql)
   generalize (cQ op)[q] = o at hrow hqk hqb hmem
   by_cases hin : inR (pE a b o) 0 ((is.length : Int) - 1) = true
   ·have hw : ∀ G, Ct Tryz.prog G 47 [.int .i64 (pE a b o), .int .i64 0, .int .i64 ((is.length - 1 : Nat) : Int)] (fun _ => .bool true) := fun G => by rw [hc1, <- hin]; exact aL _ _ _
    rcases hmem with rfl | rfl
    all_goals
      first | rw [show pE a b 1 = a from rfl] at hw | rw [show pE a b 2 = b from rfl] at hw
      repeat' (first | refine W_ ?_ | refine ad hG hst (hw _) ?_)
      exact ag (q + 1) ⟨by omega, by rw [hqk, hin]⟩ (by omega) (.of _ nw_ od_ pk_)
   ·rw [Bool.not_eq_true] at hin
    have hd := hqb hin
    rw [hd]
    have hw : ∀ G, Ct Tryz.prog G 47 [.int .i64 (pE a b o), .int .i64 0, .int .i64 ((is.length - 1 : Nat) : Int)] (fun _ => .bool false) := fun G => by rw [hc1, <- hin]; exact aL _ _ _
    rcases hmem with rfl | rfl
    all_goals
      first | rw [show pE a b 1 = a from rfl] at hw | rw [show pE a b 2 = b from rfl] at hw
      repeat' (first | refine W_ ?_ | refine ad hG hst (hw _) ?_)
      refine d7 2 1 (by omega) rfl fun ss => cf x_ rfl (ss, 0) trivial rfl (.cons _ _ _ _ (.nil R)) pk_ (.tmp _ _ rfl) (.tmp _ _ rfl) rfl
  ·rw [List.take_of_length_le (by omega)] at hqa
   rw [hqa] at htk
   repeat' refine W_ ?_
   exact ag (i + 1) ⟨by omega, htk⟩ (by omega) (.of _ nw_ od_ pk_)
 ·rw [List.take_of_length_le (by omega)] at hall
  have hd : bX is = qT is (la is) is.length (0 :: List.replicate (is.length - 1) (-1)) [0] := by
    unfold bX; rw [if_neg hz, if_pos (show jz is = true from hall)]
  have hn1 : 1 <= is.length := hnz
  have hset : (aN (List.replicate is.length (-1))).set 0 [.int .i64 0] = aN (0 :: List.replicate (is.length - 1) (-1)) := by
    have e : is.length = (is.length - 1) + 1 := by omega
    rw [e, List.replicate_succ]; rfl
  have hrow0 : (aN (List.replicate is.length (-1)))[0]? = some [.int .i64 (-1)] := by
    have e : is.length = (is.length - 1) + 1 := by omega
    rw [e, List.replicate_succ]; rfl
  have hrep := fun lo => sR (G := G) lo is.length hn1 hn
  repeat' (first | refine H_ 19 ?_ | refine dA ?_ | refine bm ?_ | ((with_reducible apply aG); rfl; kernel_rfl; (repeat (first | exact aE.nil | ((with_reducible apply aE.cons); rfl))); exact hG; exact hrep _; exact .nil _; intro y _; obtain ⟨ss, bb⟩ := y; refine bE ?_))
  refine ⟨?_⟩
  generalize ss = sd; generalize bb = bd
  repeat' (first | refine W_ ?_ | (refine iK ?_; intro ss bb))
  generalize ss = st; generalize bb = bt
  rw [hset]
  have hpo : jz is = true := hall
  clear hset hrow0 hrep hlt hnone hall hi
  apply am (X := List Int × List Nat × List (List TV) × Nat × Nat) [1, 4, 9, 1000000] (fun x => [(10, .ms st x.2.2.2.1 x.2.2.1.length x.2.1.length)]) (fun x => (st, x.2.2.2.1, .row 1 (x.2.2.1 ++ aN (nts x.2.1))) :: (sd, bd, .row 1 (aN x.1)) :: R)
    (fun x => x.2.2.2.2 <= is.length /\ DSt is.length x.1 x.2.1 x.2.2.2.2 /\ qT is (la is) x.2.2.2.2 x.1 x.2.1 = bX is) (fun x => x.2.2.2.2) (0 :: List.replicate (is.length - 1) (-1), [0], [], bt, is.length) ⟨Nat.le_refl _, mG hn1, hd.symm⟩
  exact kp_; exact nw_
  ·exact .refl _
  rintro ⟨ds, q, pre, bt, f⟩ ⟨hf, hD, hfl⟩
  dsimp only at hf hD hfl |-
  cases q with
  | nil =>
    have hdl := hD.len
    have hd' : bX is = some ds := by rw [<- hfl]; simp [qT]
    have h00 : ([] : List Nat).length = 0 := rfl
    rw [hd']
    repeat' refine W_ ?_
    refine cf x_ rfl (sd, bd) trivial rfl (.cons _ _ _ _ (.nil R)) pk_ (.tmp _ _ rfl) (.tmp _ _ rfl) (by simp [dR, hdl])
  | cons p q =>
  obtain ⟨j, rfl, hD', hpn, hg0⟩ := hD.pop
  clear hD
  have hlc : (p :: q).length = q.length + 1 := rfl
  rw [iU _ _ _ _ _ hpn] at hfl
  have hrange := hD'.inv.gd (p : Nat)
  have hdl := hD'.len
  have hmu := hD'.mu
  have hgp : (pre ++ aN (nts (p :: q)))[pre.length + 0]? = some [.int .i64 (p : Int)] := by
    rw [Nat.add_zero, List.getElem?_append_right (Nat.le_refl _), Nat.sub_self]; rfl
  have hdi : (aN ds)[p]? = some [.int .i64 (gd ds (p : Nat))] := by
    have h9 := qm (ds := ds) (p := p) (by omega)
    simp only [aN, List.getElem?_map]
    rw [List.getElem?_eq_getElem (by omega), h9]; rfl
  have hii : (d9 is)[p]? = some (is[p]).tv := by simp only [d9, List.getElem?_map]; rw [List.getElem?_eq_getElem hpn]; rfl
  have hpi : dI is.length is[p] = true := List.all_eq_true.1 hpo _ (List.getElem_mem _)
  have hti := ht _ (List.getElem_mem hpn)
  generalize is[p] = ii at hfl hii hpi hti
  obtain ⟨op, a, b, t⟩ := ii
  replace hti : t.size <= 1048576 := hti
  have her := iq ⟨op, a, b, t⟩
  have hop : inR op 1 26 = true := by simp only [dI, Bool.and_eq_true] at hpi; exact hpi.1.1
  have hef := sj hst hca op a b t hti hop
  have hnx := ad1 hst hca op a b t p (gd ds p) hti hop (by omega) ⟨hg0, hrange.2⟩
  replace hii : (d9 is)[p]? = some [.int .i64 op, .int .i64 a, .int .i64 b, .str t] := hii
  have hstep : la is ⟨op, a, b, t⟩ p ds = if gd ds p < (ai.eff ⟨op, a, b, t⟩).1 then none else if (ai.labs ⟨op, a, b, t⟩).any (gz is p op) then none else gA is.length (ai.nexts ⟨op, a, b, t⟩ p (gd ds p)) (ds, []) := rfl
  rw [hstep, rH, List.any_map] at hfl
  clear hstep
  have hpi0 := hpi
  rw [tk, Bool.and_eq_true] at hpi
  have hlb := hpi.2
  clear hpi
  have hn0 : ¬ gd ds p < (ai.eff ⟨op, a, b, t⟩).1 -> ∀ x ∈ ai.nexts ⟨op, a, b, t⟩ p (gd ds p), 0 <= x.2 := fun h => fP ⟨op, a, b, t⟩ p (gd ds p) hg0 h fun h14 => by
    have := hpi0
    simp only [dI, Bool.and_eq_true] at this
    have h3 := this.1.2
    simp [show op = 14 from h14] at h3
    simp [ai.eff, show op = 14 from h14]; exact h3
  clear hpi0
  have hnl := sD ⟨op, a, b, t⟩ p (gd ds p)
  generalize ai.nexts ⟨op, a, b, t⟩ p (gd ds p) = L at *
  generalize (ai.eff ⟨op, a, b, t⟩).1 = e1 at *
  generalize (ai.eff ⟨op, a, b, t⟩).2 = e2 at *
  generalize hgg : gd ds (p : Int) = g at *
  by_cases hlt : g < e1
  ·rw [if_pos hlt] at hfl
   rw [<- hfl]
   repeat' (first | refine W_ ?_ | refine acU ?_ | (refine ak ?_; intro ss bb) | refine ac ?_ | refine ad hG hst (hef) ?_)
   refine d7 2 1 (by omega) rfl fun ss => cf x_ rfl (ss, 0) trivial rfl (.cons _ _ _ _ (.nil R)) pk_ (.tmp _ _ rfl) (.tmp _ _ rfl) rfl
  rw [if_neg hlt] at hfl
  replace hn0 := hn0 hlt
  have hlr := fun s b => nr op s b
  have hol := rT op
  repeat' (first | refine W_ ?_ | refine acU ?_ | (refine ak ?_; intro ss bb) | refine ac ?_ | refine ad hG hst (hef) ?_ | ((with_reducible apply aG); rfl; kernel_rfl; (repeat (first | exact aE.nil | ((with_reducible apply aE.cons); rfl))); exact hG; exact oC ss bb op a b t; exact .cons _ _ _ _ (.nil _); intro y _; obtain ⟨sl5, bl5⟩ := y; refine aa6 ?_))
  generalize ss = s6; generalize bb = b6
  have hlr6 := hlr s6 b6
  clear hlr
  apply am (X := Nat) [1, 4, 9, 11, 12, 100, 101, 1000000] (fun k => [(102, .int .i64 (k : Int)), (10, .ms st bt (pre ++ [[TV.int .i64 (p : Int)]]).length q.length)]) (fun _ => (sl5, bl5, .row 1 (xg op s6 b6)) :: (s6, b6, .box [.int .i64 op, .int .i64 a, .int .i64 b, .str t]) :: (st, bt, .row 1 ((pre ++ [[TV.int .i64 (p : Int)]]) ++ aN (nts q))) :: (sd, bd, .row 1 (aN ds)) :: R)
    (fun k => k <= (cQ op).length /\ ((cQ op).take k).any (gz is p op ∘ pE a b) = false) (fun k => (cQ op).length - k) 0 ⟨Nat.zero_le _, rfl⟩
  (repeat (first | exact jp.nil | (apply jp.cons; rfl)))
  ·(repeat (first | exact cD.envNil | refine cD.envCons (by first | rfl | exact aen rfl (by simp) (by simp)) ?_))
  ·refine .cons (.head _) (.cons (.head _) ?_)
   rw [List.append_assoc]
   exact .refl _
  have hpr : (pre ++ [[TV.int .i64 (p : Int)]]).length = pre.length + 1 := by simp
  generalize pre ++ [[TV.int .i64 (p : Int)]] = pre1 at *
  rintro k ⟨hk, hka⟩
  try dsimp only
  by_cases hkl : k < (cQ op).length
  ·have hrow := we (s := s6) (b := b6) hkl
   have hkk : ((cQ op).take (k + 1)).any (gz is p op ∘ pE a b) = (gz is p op ∘ pE a b) (cQ op)[k] := by
     rw [List.take_add_one, List.any_append, hka, List.getElem?_eq_getElem hkl]; simp
   have hkb : (gz is p op ∘ pE a b) (cQ op)[k] = true -> (cQ op).any (gz is p op ∘ pE a b) = true := fun h => List.any_eq_true.2 ⟨_, List.getElem_mem hkl, h⟩
   have hmem := pR (List.getElem_mem hkl)
   have hin := List.all_eq_true.1 hlb _ (List.getElem_mem hkl)
   generalize (cQ op)[k] = o at hrow hkk hkb hmem hin
   dsimp only [Function.comp] at hkk hkb
   simp only [inR, decide_eq_true_eq] at hin
   obtain ⟨vn, hvn⟩ : ∃ vn : Nat, pE a b o = (vn : Int) := ⟨(pE a b o).toNat, by omega⟩
   rw [hvn] at hkk hkb hin
   have hvl : vn < is.length := by omega
   repeat' refine H_ 30 ?_
   refine ⟨dq ?_⟩
   apply fx (X := Unit) [1, 4, 9, 10, 11, 12, 100, 101, 102, 1000000] (fun _ => [(126, .bool (gz is p op (vn : Int)))]) (fun _ => (sl5, bl5, .row 1 (xg op s6 b6)) :: (s6, b6, .box [.int .i64 op, .int .i64 a, .int .i64 b, .str t]) :: (st, bt, .row 1 (pre1 ++ aN (nts q))) :: (sd, bd, .row 1 (aN ds)) :: R) (fun _ => True)
   case hk => (repeat (first | exact jp.nil | (apply jp.cons; rfl)))
   ·have hri : (d9 is)[vn]? = some (is[vn]).tv := by simp only [d9, List.getElem?_map]; rw [List.getElem?_eq_getElem hvl]; rfl
    have hoa : aeq is (vn : Int) = is[vn].op := by simp [aeq, hvl]
    clear hkk hkb hka hlb hfl hnx hef hpo ht
    generalize is[vn] = iu at hri hoa
    obtain ⟨op', a', b', t'⟩ := iu
    replace hri : (d9 is)[vn]? = some [.int .i64 op', .int .i64 a', .int .i64 b', .str t'] := hri
    have hbs : gz is p op (vn : Int) = (!decide (op = 26) && decide ((vn : Int) <= p) && !decide (op' = 23)) := by simp [gz, hoa]
    rw [hbs]
    have hw3 : op = 26 \/ (¬ op = 26 /\ (vn : Int) <= p) \/ (¬ op = 26 /\ ¬ (vn : Int) <= p) := by omega
    rcases hmem with rfl | rfl
    all_goals
      first
        | obtain rfl : a = (vn : Int) := hvn
        | obtain rfl : b = (vn : Int) := hvn
      rcases hw3 with h26 | ⟨h26, hle⟩ | ⟨h26, hle⟩
      all_goals
        repeat' refine V_ ?_
        refine eb () trivial (.of _ nw_ od_ pk_)
   ·intro _ _
    by_cases hbk : gz is p op (vn : Int) = true
    ·rw [hkb hbk, if_pos rfl] at hfl
     rw [hbk, <- hfl]
     repeat' (first | with_reducible refine dc rfl ?_ | ((with_reducible first | apply o_move | apply mN); rfl; rfl) | with_reducible refine dq ?_ | with_reducible refine cB ?_ | with_reducible refine fO ?_ | with_reducible refine dX ?_ | with_reducible refine cR ?_ | with_reducible refine dT ?_ | with_reducible refine dW ?_ | with_reducible refine fI ?_ | with_reducible refine bB ?_ | with_reducible refine aq_block_miss rfl ?_ | with_reducible refine bC ?_ | with_reducible refine bH ?_ | with_reducible refine bz ?_ | with_reducible refine db ?_ | refine cw rfl rr_ ?_ | refine cx rfl rr_ ?_ | (refine bV rfl rr_ dd_ ?_) | (refine bW rfl rr_ dd_ ?_) | (refine eu rfl rr_ (fun hc => ?_) (fun hc => ?_)) | (refine df rfl rr_ (fun hc => ?_) (fun hc => ?_)))
     refine d7 2 1 (by omega) rfl fun ss => cf x_ rfl (ss, 0) trivial rfl (.cons _ _ _ _ (.nil R)) pk_ (.tmp _ _ rfl) (.tmp _ _ rfl) rfl
    ·rw [Bool.not_eq_true] at hbk
     rw [hbk]
     repeat' refine W_ ?_
     exact ag (k + 1) ⟨by omega, by rw [hkk, hbk]⟩ (by omega) (.of _ nw_ od_ pk_)
  ·rw [List.take_of_length_le (by omega)] at hka
   rw [hka, if_neg (by simp)] at hfl
   repeat' (first | refine V_ ?_ | refine ae hG hst (hnx) ?_)
   clear hka hlb hef hnx hmu
   apply am (X := Nat × List Int × List Nat × Nat × List (List TV)) [1, 4, 9, 134, 135, 1000000] (fun x => [(136, .int .i64 (x.1 : Int)), (10, .ms st x.2.2.2.1 x.2.2.2.2.length (q.length + x.2.2.1.length))])
     (fun x => (st, x.2.2.2.1, .row 1 (x.2.2.2.2 ++ aN (nts (q ++ x.2.2.1)))) :: (sd, bd, .row 1 (aN x.2.1)) :: R)
     (fun x => x.1 <= L.length /\ x.2.1.length = is.length /\ x.2.2.1.length <= x.1 /\ gA is.length (L.drop x.1) (x.2.1, x.2.2.1) = gA is.length L (ds, [])) (fun x => L.length - x.1) (0, ds, [], bt, pre1) ⟨Nat.zero_le _, hdl, Nat.zero_le _, rfl⟩
   exact kp_; exact nw_
   ·rw [List.append_nil]; exact pk_
   rintro ⟨k, ds', new, bt', pre'⟩ ⟨hk, hdl', hnw, hpu⟩
   dsimp only at hk hdl' hnw hpu |-
   have hqf : q.length <= is.length := by have := hD'.mu; omega
   by_cases hkl : k < L.length
   ·rw [List.drop_eq_getElem_cons hkl] at hpu
    have hrow : (plR L)[k]? = some [.int .i64 L[k].1, .int .i64 L[k].2] := by simp [plR, hkl]
    generalize L[k] = uv at hpu hrow
    obtain ⟨u, v⟩ := uv
    dsimp only at hrow
    rw [yq] at hpu
    repeat' (first | ((with_reducible apply o_y); exact y_; rfl) | (refine ak ?_; intro ss bb) | refine ac ?_ | with_reducible refine sE (id := 10) ?_  | with_reducible refine dc rfl ?_ | (with_reducible first | apply dq | apply cB | apply fO | apply dX | apply cR | apply dT | apply dW | apply fI | apply bB | apply (aq_block_miss rfl) | apply bC | apply bH | apply bz | apply db) | refine iM rfl rfl rfl rr_ ?_ | refine fB rfl rfl rfl rr_ rfl rfl rfl ?_ | refine et rfl rfl rfl rr_ rfl rfl ?_ | (refine ni rfl rfl rfl rr_ dd_ ?_) | (refine nT rfl rfl rfl rr_ dd_ ?_) | (refine dM rfl rfl rfl rr_ (fun hg => ?_) (fun hg => ?_)) | (refine dr rfl rfl rfl rr_ (fun hg => ?_) (fun hg => ?_)) | refine cw rfl rr_ ?_ | refine cx rfl rr_ ?_ | (refine bV rfl rr_ dd_ ?_) | (refine bW rfl rr_ dd_ ?_) | (refine eu rfl rr_ (fun hc => ?_) (fun hc => ?_)) | (refine df rfl rr_ (fun hc => ?_) (fun hc => ?_)))
    refine ⟨cR (dq ?_)⟩
    generalize ss = s8; generalize bb = b8
    apply fx (X := Unit) [1, 4, 9, 10, 18, 134, 135, 136, 1000000] (fun _ => [(140, .bool (ul is.length ds' u v))]) (fun _ => (s8, b8, .box [.int .i64 u, .int .i64 v]) :: (st, bt', .row 1 (pre' ++ aN (nts (q ++ new)))) :: (sd, bd, .row 1 (aN ds')) :: R) (fun _ => True)
    case hk => (repeat (first | exact jp.nil | (apply jp.cons; rfl)))
    ·clear hpu hfl hn0 hpo ht
     by_cases hin : inR u 0 ((is.length : Int) - 1) = true
     ·have hw : ∀ G, Ct Tryz.prog G 47 [.int .i64 u, .int .i64 0, .int .i64 ((is.length - 1 : Nat) : Int)] (fun _ => .bool true) := fun G => by rw [hc1, <- hin]; exact aL _ _ _
      have hin2 : 0 <= u /\ u <= (is.length : Int) - 1 := by simpa [inR] using hin
      obtain ⟨un, rfl⟩ : ∃ un : Nat, u = (un : Int) := ⟨u.toNat, by omega⟩
      have hun : un < is.length := by omega
      have hrd : (aN ds')[un]? = some [.int .i64 (gd ds' (un : Int))] := by
        have h9 := qm (ds := ds') (p := un) (by omega)
        simp only [aN, List.getElem?_map]
        rw [List.getElem?_eq_getElem (by omega), h9]; rfl
      have hbs : ul is.length ds' (un : Int) v = (decide (250 < v) || (decide (0 <= gd ds' (un : Int)) && !decide (gd ds' (un : Int) = v))) := by simp [ul, hin]
      rw [hbs]
      generalize gd ds' (un : Int) = gv at hrd |-
      have hw3 : 250 < v \/ (¬ 250 < v /\ 0 <= gv) \/ (¬ 250 < v /\ ¬ 0 <= gv) := by omega
      rcases hw3 with h250 | ⟨h250, hg0'⟩ | ⟨h250, hg0'⟩
      all_goals
        repeat' (first | refine V_ ?_ | refine ae hG hst (hw _) ?_)
        refine eb () trivial (.of _ (cD.envCons (jB rfl (by simp [*])) cD.envNil) od_ pk_)
     ·rw [Bool.not_eq_true] at hin
      have hw : ∀ G, Ct Tryz.prog G 47 [.int .i64 u, .int .i64 0, .int .i64 ((is.length - 1 : Nat) : Int)] (fun _ => .bool false) := fun G => by rw [hc1, <- hin]; exact aL _ _ _
      have hbs : ul is.length ds' u v = true := by simp [ul, hin]
      rw [hbs]
      repeat' (first | refine V_ ?_ | refine ae hG hst (hw _) ?_)
      refine eb () trivial (.of _ nw_ od_ pk_)
    ·intro _ _
     by_cases hb : ul is.length ds' u v = true
     ·rw [if_pos hb] at hpu
      rw [<- hpu] at hfl
      dsimp only at hfl
      rw [hb, <- hfl]
      repeat' (first | with_reducible refine dc rfl ?_ | ((with_reducible first | apply o_move | apply mN); rfl; rfl) | with_reducible refine dq ?_ | with_reducible refine cB ?_ | with_reducible refine fO ?_ | with_reducible refine dX ?_ | with_reducible refine cR ?_ | with_reducible refine dT ?_ | with_reducible refine dW ?_ | with_reducible refine fI ?_ | with_reducible refine bB ?_ | with_reducible refine aq_block_miss rfl ?_ | with_reducible refine bC ?_ | with_reducible refine bH ?_ | with_reducible refine bz ?_ | with_reducible refine db ?_ | refine cw rfl rr_ ?_ | refine cx rfl rr_ ?_ | (refine bV rfl rr_ dd_ ?_) | (refine bW rfl rr_ dd_ ?_) | (refine eu rfl rr_ (fun hc => ?_) (fun hc => ?_)) | (refine df rfl rr_ (fun hc => ?_) (fun hc => ?_)))
      refine d7 2 1 (by omega) rfl fun ss => cf x_ rfl (ss, 0) trivial rfl (.cons _ _ _ _ (.nil R)) pk_ (.tmp _ _ rfl) (.tmp _ _ rfl) rfl
     ·rw [if_neg hb] at hpu
      have hin : inR u 0 ((is.length : Int) - 1) = true := by
        cases h : inR u 0 ((is.length : Int) - 1)
        ·exact absurd (by simp [ul, h]) hb
        ·rfl
      rw [Bool.not_eq_true] at hb
      rw [hb]
      have hin2 : 0 <= u /\ u <= (is.length : Int) - 1 := by simpa [inR] using hin
      obtain ⟨un, rfl⟩ : ∃ un : Nat, u = (un : Int) := ⟨u.toNat, by omega⟩
      have hun : un < is.length := by omega
      have hrd : (aN ds')[un]? = some [.int .i64 (gd ds' (un : Int))] := by
        have h9 := qm (ds := ds') (p := un) (by omega)
        simp only [aN, List.getElem?_map]
        rw [List.getElem?_eq_getElem (by omega), h9]; rfl
      have hrl : pre'.length + (q.length + new.length) <= (pre' ++ aN (nts (q ++ new))).length := by simp [aN, nts]
      have hlive : ((pre' ++ aN (nts (q ++ new))).drop pre'.length).take (q.length + new.length) = aN (nts (q ++ new)) := by
        rw [List.drop_left, List.take_of_length_le (by simp [aN, nts])]
      by_cases hgn : gd ds' (un : Int) < 0
      ·rw [if_pos hgn] at hpu
       have hset : (aN ds').set un [.int .i64 v] = aN (ds'.set un v) := qC ds' un v
       repeat' (first | refine W_ ?_ | refine bm ?_ | refine dA ?_ | (refine aef ?_; intro bb pp))
       refine ag (k + 1, ds'.set un v, new ++ [un], bb, pp) ⟨by dsimp only; omega, by simp [hdl'], by simp; omega, by dsimp only; rw [<- hpu]; rfl⟩ (by dsimp only; omega) (.of _ nw_ od_ pk_)
      ·rw [if_neg hgn] at hpu
       repeat' refine W_ ?_
       refine ag (k + 1, ds', new, bt', pre') ⟨by dsimp only; omega, hdl', by dsimp only; omega, by dsimp only; exact hpu⟩ (by dsimp only; omega) (.of _ nw_ od_ pk_)
   ·rw [List.drop_of_length_le (by omega)] at hpu
    rw [<- hpu] at hfl
    dsimp only [gA] at hfl
    repeat' refine W_ ?_
    refine ag (ds', q ++ new, pre', bt', j) ⟨by dsimp only; omega, ?_, by dsimp only; exact hfl⟩ (by dsimp only; omega) (.of _ nw_ od_ pk_)
    dsimp only
    exact i9 L ds q [] (ds', new) hn0 (by rw [List.append_nil]; exact hD') hpu.symm
def qY (cs : List aC) (k n : Int) : Prop := ∃ x, cs[k.toNat]? = some x /\ x.block = false /\ x.params = n
theorem gW {cs : List aC} {k n : Int} {j : Nat} {x : aC} (hk : k = j) (hx : cs[j]? = some x) : qY cs k n ↔ x.block = false /\ x.params = n := by
 unfold qY
 subst hk
 rw [Int.toNat_natCast, hx]
 constructor
 ·rintro ⟨y, hy, h⟩; cases hy; exact h
 ·exact fun h => ⟨x, rfl, h⟩
def eL (nc : Nat) (cs : List aC) (e : aB) : Prop :=
 (cK e.selector.data.toList = true /\ inR e.owner 16 ((nc : Int) - 1) = true /\ inR e.code 0 ((cs.length : Int) - 1) = true) /\ qY cs e.code (bY e.selector.data.toList)
def em (e f : aB) : Prop := f.owner = e.owner /\ f.class_ = e.class_ /\ f.selector = e.selector
def dE (es : List aB) (i : Nat) (e : aB) : Prop := ∀ f ∈ es.take i, ¬ em e f
def nk (nc : Nat) (cs : List aC) (es : List aB) : Prop := ∀ (i : Nat) (h : i < es.length), eL nc cs es[i] /\ dE es i es[i]
open Classical in
noncomputable def fm (nc : Nat) (cs : List aC) (es : List aB) : Bool := decide (nk nc cs es /\ es.length <= 96)
theorem uK {nc : Nat} {cs : List aC} {es : List aB} {i : Nat} (h : i < es.length) (hb : ¬ (eL nc cs es[i] /\ dE es i es[i])) : ¬ nk nc cs es := fun k => hb (k i h)
theorem tt {nc : Nat} {cs : List aC} {es : List aB} (h : ∀ j, j < es.length -> ∀ h : j < es.length, eL nc cs es[j] /\ dE es j es[j]) : nk nc cs es := fun i hi => h i hi hi
open Classical in
theorem lZ {nc : Nat} {cs : List aC} {es : List aB} {i : Nat} (h : i < es.length) (hb : ¬ (eL nc cs es[i] /\ dE es i es[i])) : fm nc cs es = false := decide_eq_false fun k => uK h hb k.1
open Classical in
theorem jW {nc : Nat} {cs : List aC} {es : List aB} (h : ∀ j, j < es.length -> ∀ h : j < es.length, eL nc cs es[j] /\ dE es j es[j]) : fm nc cs es = decide ((es.length : Int) <= 96) := by
 unfold fm
 rw [decide_eq_decide]
 exact ⟨fun h => by omega, fun k => ⟨tt h, by omega⟩⟩
open Classical in
theorem rb {nc : Nat} {cs : List aC} {es : List aB} (h : ¬ es.length <= 96) : fm nc cs es = false := decide_eq_false fun k => h k.2
def aaZ (i : Nat) (x : ai) (o : List Int) : Option (List Int) :=
 if x.op = 15 then (if (0 <= x.a /\ x.a <= (i : Int) - 1) /\ ¬ 0 <= gd o x.a then some (o.set x.a.toNat i) else none) else some o
def lB (i : Nat) : List ai -> List Int -> Option (List Int)
 | [], o => some o
 | x :: r, o => match aaZ i x o with
   | none => none
   | some o' => lB i r o'
def sY : Nat -> List aC -> List Int -> Option (List Int)
 | _, [], o => some o
 | i, x :: r, o => match lB i x.instrs o with
   | none => none
   | some o' => sY (i + 1) r o'
def qJ (cs : List aC) (o : List Int) : Prop := ∀ (i : Nat) (h : i < cs.length), cs[i].block = decide (0 <= gd o (i : Int))
open Classical in
noncomputable def gq (cs : List aC) : Option (List Int) -> Option (List Int)
 | none => none
 | some o => if qJ cs o then some o else none
noncomputable def fC (cs : List aC) (i : Nat) (r : List ai) (o : List Int) : Option (List Int) := gq cs (match lB i r o with
   | none => none
   | some o' => sY (i + 1) (cs.drop (i + 1)) o')
noncomputable def fu (cs : List aC) (i : Nat) (o : List Int) : Option (List Int) := gq cs (sY i (cs.drop i) o)
noncomputable def eT (cs : List aC) : Option (List Int) := fu cs 0 (List.replicate cs.length (-1))
theorem l6 {cs : List aC} {i : Nat} (h : i < cs.length) (o : List Int) : fu cs i o = fC cs i cs[i].instrs o := by
 unfold fu fC
 rw [List.drop_eq_getElem_cons h]; rfl
theorem nz {cs : List aC} {i : Nat} (h : ¬ i < cs.length) (o : List Int) : fu cs i o = gq cs (some o) := by
 unfold fu
 rw [List.drop_of_length_le (by omega)]; rfl
theorem lI {cs : List aC} {i k : Nat} {is : List ai} (h : k < is.length) (o : List Int) : fC cs i (is.drop k) o = match aaZ i is[k] o with
   | none => none
   | some o' => fC cs i (is.drop (k + 1)) o' := by
 unfold fC
 rw [List.drop_eq_getElem_cons h]
 show gq cs (match (match aaZ i is[k] o with | none => none | some o' => lB i (is.drop (k + 1)) o') with | none => none | some o' => sY (i + 1) (cs.drop (i + 1)) o') = _
 cases aaZ i is[k] o <;> rfl
theorem od {cs : List aC} {i k : Nat} {is : List ai} (h : ¬ k < is.length) (o : List Int) : fC cs i (is.drop k) o = fu cs (i + 1) o := by
 unfold fC fu
 rw [List.drop_of_length_le (by omega)]; rfl
theorem tD {o : List Int} {a b : Nat} {v : Int} (h : a ≠ b) : gd (o.set a v) (b : Int) = gd o (b : Int) := by
 simp [gd, List.getElem?_set, h]
theorem j1 {o : List Int} {a : Nat} {v : Int} (h : a < o.length) : gd (o.set a v) (a : Int) = v := by
 simp [gd, List.getElem?_set, h]
def cT (n : Nat) (o : List Int) : Prop := o.length = n /\ ∀ j : Nat, j < n -> gd o j = -1 \/ ((j : Int) < gd o j /\ gd o j < n)
theorem gO (n : Nat) : cT n (List.replicate n (-1)) := ⟨by simp, fun j hj => .inl (by simp [gd, hj])⟩
theorem mS {n i : Nat} {x : ai} {o o' : List Int} (hi : i < n) (h : aaZ i x o = some o') (ho : cT n o) : cT n o' /\ ∀ j : Nat, 0 <= gd o j -> 0 <= gd o' j := by
 unfold aaZ at h
 split at h
 ·split at h
  ·rename_i h1
   cases h
   obtain ⟨a, ha⟩ : ∃ a : Nat, x.a = a := ⟨x.a.toNat, by omega⟩
   rw [ha] at h1 |-
   rw [Int.toNat_natCast]
   have hal : a < n := by omega
   refine ⟨⟨by simp [ho.1], fun j hj => ?_⟩, fun j hj => ?_⟩
   ·by_cases hja : a = j
    ·subst hja
     rw [j1 (by rw [ho.1]; exact hal)]
     exact .inr ⟨by omega, by omega⟩
    ·rw [tD hja]; exact ho.2 j hj
   ·by_cases hja : a = j
    ·subst hja
     rw [j1 (by rw [ho.1]; exact hal)]; omega
    ·rw [tD hja]; exact hj
  ·cases h
 ·cases h; exact ⟨ho, fun j hj => hj⟩
theorem gm {n i : Nat} (hi : i < n) : ∀ {r : List ai} {o o' : List Int}, lB i r o = some o' -> cT n o -> cT n o' /\ ∀ j : Nat, 0 <= gd o j -> 0 <= gd o' j
 | [], o, o', h, ho => by cases h; exact ⟨ho, fun _ hj => hj⟩
 | x :: r, o, o', h, ho => by
   unfold lB at h
   split at h
   ·cases h
   ·rename_i o1 h1
    obtain ⟨h2, h3⟩ := mS hi h1 ho
    obtain ⟨h4, h5⟩ := gm hi h h2
    exact ⟨h4, fun j hj => h5 j (h3 j hj)⟩
theorem jX {n : Nat} : ∀ {r : List aC} {i : Nat} {o o' : List Int}, i + r.length <= n -> sY i r o = some o' -> cT n o -> cT n o' /\ ∀ j : Nat, 0 <= gd o j -> 0 <= gd o' j
 | [], i, o, o', _, h, ho => by cases h; exact ⟨ho, fun _ hj => hj⟩
 | x :: r, i, o, o', hn, h, ho => by
   unfold sY at h
   split at h
   ·cases h
   ·rename_i o1 h1
    simp only [List.length_cons] at hn
    obtain ⟨h2, h3⟩ := gm (by omega) h1 ho
    obtain ⟨h4, h5⟩ := jX (by omega) h h2
    exact ⟨h4, fun j hj => h5 j (h3 j hj)⟩
theorem jP {cs : List aC} {p : Option (List Int)} {o : List Int} (h : gq cs p = some o) : p = some o /\ qJ cs o := by
 cases p with
 | none => cases h
 | some o' =>
   by_cases hf : qJ cs o'
   ·have : gq cs (some o') = some o' := by unfold gq; exact if_pos hf
    rw [this] at h; cases h; exact ⟨rfl, hf⟩
   ·have : gq cs (some o') = none := by unfold gq; exact if_neg hf
    rw [this] at h; cases h
theorem jK {cs : List aC} {o : List Int} (h : eT cs = some o) : cT cs.length o /\ qJ cs o := by
 obtain ⟨h1, h2⟩ := jP h
 exact ⟨(jX (by simp) h1 (gO _)).1, h2⟩
theorem nL {cs : List aC} {i k : Nat} {is : List ai} {o : List Int} {a : Nat} (hi : i < cs.length) (ho : cT cs.length o) (ha : a < cs.length) (hb : cs[a].block = false) (hp : 0 <= gd o (a : Int)) : fC cs i (is.drop k) o = none := by
 cases h : fC cs i (is.drop k) o with
 | none => rfl
 | some o' =>
   exfalso
   obtain ⟨h1, h2⟩ := jP h
   split at h1
   ·cases h1
   ·rename_i o1 h3
    obtain ⟨h4, h5⟩ := gm hi h3 ho
    obtain ⟨h6, h7⟩ := jX (by simp; omega) h1 h4
    have h8 := h2 a ha
    rw [hb] at h8
    have h9 := h7 a (h5 a hp)
    rw [decide_eq_true h9] at h8
    cases h8
theorem pV {cs : List aC} {o : List Int} {i : Nat} (h : i < cs.length) (hb : cs[i].block ≠ decide (0 <= gd o (i : Int))) : gq cs (some o) = none := by
 unfold gq
 exact if_neg fun k => hb (k i h)
theorem nf {cs : List aC} {o : List Int} (h : ∀ j, j < cs.length -> ∀ h : j < cs.length, cs[j].block = decide (0 <= gd o (j : Int))) : gq cs (some o) = some o := by
 unfold gq
 exact if_pos fun i hi => h i hi hi
def gF (o : List Int) : Nat -> Int -> List Int
 | 0, _ => []
 | n + 1, k => if k < 0 then [] else k :: gF o n (gd o k)
def upN (o : List Int) : Nat -> Int -> Int
 | 0, k => k
 | n + 1, k => if k < 0 then k else upN o n (gd o k)
theorem qH (o : List Int) (n : Nat) {k : Int} (h : k < 0) : upN o n k = k := by
 cases n with
 | zero => rfl
 | succ n => unfold upN; rw [if_pos h]
theorem na {o : List Int} (hinv : cT o.length o) : ∀ (n : Nat) (k : Int) (b : Nat), k = -1 \/ (0 <= k /\ k < o.length /\ o.length <= n + k.toNat) -> (gF o n k)[b]? = if 0 <= upN o b k then some (upN o b k) else none
 | 0, k, b, h => by
   obtain rfl : k = -1 := by omega
   rw [qH o b (by omega)]; rfl
 | n + 1, k, b, h => by
   rcases h with rfl | ⟨h0, h1, h2⟩
   ·rw [qH o b (by omega)]; rfl
   ·unfold gF
    rw [if_neg (by omega)]
    obtain ⟨j, rfl⟩ : ∃ j : Nat, k = j := ⟨k.toNat, by omega⟩
    cases b with
    | zero =>
      show some (j : Int) = _
      unfold upN
      rw [if_pos h0]
    | succ b =>
      show (gF o n (gd o j))[b]? = _
      have hj := hinv.2 j (by omega)
      rw [na hinv n (gd o j) b (by rw [Int.toNat_natCast] at h2; omega)]
      have : upN o (b + 1) j = upN o b (gd o j) := by
        conv => lhs; unfold upN
        rw [if_neg (by omega)]
      rw [this]
theorem kO (o : List Int) : ∀ (n : Nat) (k : Int), (gF o n k).length <= n
 | 0, _ => Nat.le_refl _
 | n + 1, k => by
   unfold gF
   split
   ·simp
   ·have := kO o n (gd o k); simp; omega
theorem bN {lo : Nat} {cs : List aC} {j : Nat} (h : j < cs.length) : (cs.map (aC.tw lo))[j]? = some [.bool cs[j].block, .int .i64 cs[j].params, .int .i64 cs[j].slots, .sl lo 4 (cs[j].instrs.map (ai.tw lo))] := aI h
theorem jg {lo : Nat} {es : List aB} {j : Nat} (h : j < es.length) : (es.map (aB.tw lo))[j]? = some [.int .i64 es[j].owner, .bool es[j].class_, .str es[j].selector, .int .i64 es[j].code] := aI h
theorem i6 {lo : Nat} {is : List ai} {j : Nat} (h : j < is.length) : (is.map (ai.tw lo))[j]? = some [.int .i64 is[j].op, .int .i64 is[j].a, .int .i64 is[j].b, .str is[j].text] := aI h
def ai.none : ai := ⟨0, 0, 0, ⟨#[]⟩⟩
def eS (cs : List aC) (o : List Int) (k : Nat) (b : Int) : Option aC := if 0 <= b /\ 0 <= upN o b.toNat k then cs[(upN o b.toNat k).toNat]? else none
def vC (cs : List aC) (o : List Int) (k : Nat) (x : ai) : Bool := match eS cs o k x.b with
 | none => false
 | some y => inR x.a (if x.op = 9 then y.params else 0) (IntKind.i64.wrap (y.slots - 1))
def ez (x : ai) : Prop := inR x.op 1 26 = true /\ (aeh x.op = true \/ x.a = 0) /\ (aeC x.op = true \/ x.b = 0) /\ (aea x.op = true \/ x.text = ⟨#[]⟩)
instance (x : ai) : Decidable (ez x) := by unfold ez; infer_instance
def cW (cs : List aC) (nc : Nat) (o : List Int) (k : Nat) (own : aC) (x : ai) : Bool :=
 if x.op = 1 then inR x.a 0 999999999
 else if x.op = 2 then oy x.text
 else if x.op = 3 \/ x.op = 13 then cK x.text.data.toList
 else if x.op = 8 \/ x.op = 9 then vC cs o k x
 else if x.op = 10 \/ x.op = 11 then cA x.text.data.toList
 else if x.op = 12 then inR x.a 0 ((nc : Int) - 1)
 else if x.op = 14 then cK x.text.data.toList && inR x.a 0 ((nc : Int) - 1)
 else if x.op = 20 then inR x.a 0 ((own.instrs.length : Int) - 1)
 else if x.op = 21 \/ x.op = 22 then inR x.a 0 ((own.instrs.length : Int) - 1) && inR x.b 0 ((own.instrs.length : Int) - 1)
 else if x.op = 24 then inR x.b 0 ((own.instrs.length : Int) - 1)
 else if x.op = 25 \/ x.op = 26 then inR x.a own.params (own.slots - 1) && inR x.b 0 ((own.instrs.length : Int) - 1)
 else true
def e7 (cs : List aC) (nc : Nat) (o : List Int) (k : Nat) (own : aC) (x : ai) : Bool := decide (ez x) && cW cs nc o k own x
theorem zk {cs : List aC} {nc : Nat} {o : List Int} {k : Nat} {own : aC} {x : ai} (h : e7 cs nc o k own x = true) : dI own.instrs.length x = true := by
 obtain ⟨op, a, b, t⟩ := x
 unfold e7 at h
 rw [Bool.and_eq_true, decide_eq_true_eq] at h
 obtain ⟨h0, h2⟩ := h
 have h1 := h0.1
 clear h0
 unfold dI
 rw [rH, List.all_map]
 simp only [inR, decide_eq_true_eq] at h1
 unfold cW at h2
 dsimp only at h2 h1 |-
 have h3 : inR op 1 26 = true := vl h1
 rw [h3, <- acq]
 simp only [cQ]
 have hc : op = 1 \/ op = 2 \/ op = 3 \/ op = 4 \/ op = 5 \/ op = 6 \/ op = 7 \/ op = 8 \/ op = 9 \/ op = 10 \/ op = 11 \/ op = 12 \/ op = 13 \/ op = 14 \/ op = 15 \/ op = 16 \/ op = 17 \/ op = 18 \/ op = 19 \/ op = 20 \/ op = 21 \/ op = 22 \/ op = 23 \/ op = 24 \/ op = 25 \/ op = 26 := by omega
 clear h1 h3
 rcases hc with rfl | rfl | rfl | rfl | rfl | rfl | rfl | rfl | rfl | rfl | rfl | rfl | rfl | rfl | rfl | rfl | rfl | rfl | rfl | rfl | rfl | rfl | rfl | rfl | rfl | rfl
 all_goals first
   | rfl
   | (simp at h2; simp [h2, pE]; done)
   | (simp at h2; simp [h2.1, h2.2, pE]; done)
theorem qh {cs : List aC} {nc : Nat} {o : List Int} {k : Nat} {own : aC} (h : ∀ y ∈ own.instrs, e7 cs nc o k own y = true) : jz own.instrs = true := by
 unfold jz
 rw [List.all_eq_true]
 exact fun x hx => zk (h x hx)
def iF (cs : List aC) (i : Nat) (x : ai) : Prop := x.op = 15 -> (0 <= x.a /\ x.a <= (i : Int) - 1) /\ ∃ y, cs[x.a.toNat]? = some y /\ y.block = true
theorem qf {n i : Nat} (hi : i < n) : ∀ {r : List ai} {o o' : List Int}, lB i r o = some o' -> cT n o -> ∀ x ∈ r, x.op = 15 -> (0 <= x.a /\ x.a <= (i : Int) - 1) /\ 0 <= gd o' x.a
 | [], o, o', h, ho, x, hx, _ => by cases hx
 | y :: r, o, o', h, ho, x, hx, h15 => by
   unfold lB at h
   split at h
   ·cases h
   ·rename_i o1 h1
    obtain ⟨h2, h3⟩ := mS hi h1 ho
    rcases List.mem_cons.1 hx with rfl | hx
    ·unfold aaZ at h1
     rw [if_pos h15] at h1
     split at h1
     ·rename_i h4
      cases h1
      refine ⟨h4.1, ?_⟩
      obtain ⟨a, ha⟩ : ∃ a : Nat, x.a = a := ⟨x.a.toNat, by omega⟩
      have h5 := (gm hi h h2).2 a
      rw [ha] at h5 |-
      refine h5 ?_
      rw [Int.toNat_natCast, j1 (by rw [ho.1]; omega)]
      omega
     ·cases h1
    ·exact qf hi h h2 x hx h15
theorem tC {n : Nat} : ∀ {r : List aC} {i : Nat} {o o' : List Int}, i + r.length <= n -> sY i r o = some o' -> cT n o -> ∀ (j : Nat) (c : aC), r[j]? = some c -> ∀ x ∈ c.instrs, x.op = 15 -> (0 <= x.a /\ x.a <= ((i + j : Nat) : Int) - 1) /\ 0 <= gd o' x.a
 | [], i, o, o', _, h, ho, j, c, hc, x, hx, _ => by simp at hc
 | y :: r, i, o, o', hn, h, ho, j, c, hc, x, hx, h15 => by
   unfold sY at h
   split at h
   ·cases h
   ·rename_i o1 h1
    simp only [List.length_cons] at hn
    obtain ⟨h2, h3⟩ := gm (by omega) h1 ho
    cases j with
    | zero =>
      simp at hc; subst hc
      obtain ⟨h4, h5⟩ := qf (by omega) h1 ho x hx h15
      refine ⟨h4, ?_⟩
      have h6 := (jX (by omega) h h2).2 x.a.toNat
      rw [Int.toNat_of_nonneg h4.1] at h6
      exact h6 h5
    | succ j =>
      have := tC (by omega) h h2 j c (by simpa using hc) x hx h15
      rw [show i + 1 + j = i + (j + 1) by omega] at this
      exact this
theorem qr {cs : List aC} {o : List Int} (h : eT cs = some o) {i : Nat} {c : aC} (hc : cs[i]? = some c) : ∀ x ∈ c.instrs, iF cs i x := fun x hx h15 => by
 obtain ⟨h1, h2⟩ := jP h
 have hi : i < cs.length := (List.getElem?_eq_some_iff.1 hc).1
 obtain ⟨h3, h4⟩ := tC (by simp) h1 (gO _) i c (by simpa using hc) x hx h15
 rw [Nat.zero_add] at h3
 refine ⟨h3, ?_⟩
 obtain ⟨a, ha⟩ : ∃ a : Nat, x.a = a := ⟨x.a.toNat, by omega⟩
 rw [ha] at h3 h4 |-
 rw [Int.toNat_natCast]
 have hal : a < cs.length := by omega
 refine ⟨cs[a], List.getElem?_eq_getElem hal, ?_⟩
 rw [h2 a hal]
 exact decide_eq_true h4
def q8 (x : aC) : Prop := inR x.slots 0 30 = true /\ inR x.params 0 x.slots = true /\ x.instrs.length <= 900
def f6 (cs : List aC) (nc : Nat) (o : List Int) (k : Nat) (x : aC) : Prop := q8 x /\ (∀ y ∈ x.instrs, e7 cs nc o k x y = true) /\ (bX x.instrs).isSome = true
open Classical in
noncomputable def yz (cs : List aC) (nc : Nat) (o : List Int) (k : Nat) (x : aC) : Bool := decide (f6 cs nc o k x)
def q7 (cs : List aC) (nc : Nat) (o : List Int) : Prop := ∀ (k : Nat) (h : k < cs.length), f6 cs nc o k cs[k]
def vo (cs : List aC) (nc : Nat) : Prop := ∃ o, eT cs = some o /\ q7 cs nc o
def aaF (x : aD) : Prop := inR x.main 0 ((x.codes.length : Int) - 1) = true /\ qY x.codes x.main 0
def ff (x : aD) : Prop := bR x.classes = true /\ x.codes.length <= 200 /\ aaF x /\ fm x.classes.length x.codes x.entries = true /\ vo x.codes x.classes.length
open Classical in
noncomputable def dh (x : aD) : Bool := decide (ff x)
open Classical in
theorem pK {x : aD} (h : ¬ ff x) : dh x = false := decide_eq_false h
open Classical in
theorem pD {x : aD} (h : ff x) : dh x = true := decide_eq_true h
open Classical in
theorem zz {cs : List aC} {nc : Nat} {o : List Int} {k : Nat} {x : aC} (h : ¬ f6 cs nc o k x) : yz cs nc o k x = false := decide_eq_false h
open Classical in
theorem aa5 {cs : List aC} {nc : Nat} {o : List Int} {k : Nat} {x : aC} (h : f6 cs nc o k x) : yz cs nc o k x = true := decide_eq_true h
theorem eU {o : List Int} {j : Nat} (h : j < o.length) : (aN o)[j]? = some [.int .i64 (gd o (j : Int))] := by
 simp [aN, gd, h]
theorem iZ (o : List Int) : ∀ (n : Nat) (k : Int), upN o (n + 1) k = if upN o n k < 0 then upN o n k else gd o (upN o n k)
 | 0, k => rfl
 | n + 1, k => by
   by_cases h : k < 0
   ·rw [qH o _ h, qH o _ h, if_pos h]
   ·have h1 : upN o (n + 1 + 1) k = upN o (n + 1) (gd o k) := by conv => lhs; unfold upN
                                                                 rw [if_neg h]
    have h2 : upN o (n + 1) k = upN o n (gd o k) := by conv => lhs; unfold upN
                                                       rw [if_neg h]
    rw [h1, h2]
    exact iZ o n (gd o k)
theorem sU {o : List Int} (hinv : cT o.length o) : ∀ (n : Nat) (k : Int), k = -1 \/ (0 <= k /\ k < o.length) -> upN o n k = -1 \/ (0 <= upN o n k /\ upN o n k < o.length)
 | 0, k, h => h
 | n + 1, k, h => by
   rw [iZ]
   have := sU hinv n k h
   split
   ·exact this
   ·obtain ⟨j, hj⟩ : ∃ j : Nat, upN o n k = j := ⟨(upN o n k).toNat, by omega⟩
    rw [hj] at this |-
    have := hinv.2 j (by omega)
    omega
theorem acG {o : List Int} (hinv : cT o.length o) {k : Int} (hk : 0 <= k /\ k < o.length) : ∀ n : Nat, 0 <= upN o n k -> (n : Int) <= upN o n k
 | 0, h => h
 | n + 1, h => by
   rw [iZ] at h |-
   have hin := sU hinv n k (.inr hk)
   split
   ·rename_i h1; rw [if_pos h1] at h; omega
   ·rename_i h1
    rw [if_neg h1] at h
    have ih := acG hinv hk n (by omega)
    obtain ⟨j, hj⟩ : ∃ j : Nat, upN o n k = j := ⟨(upN o n k).toNat, by omega⟩
    rw [hj] at h hin ih |-
    have := hinv.2 j (by omega)
    omega
theorem rS {o : List Int} {k : Int} {n : Nat} (h : upN o n k < 0) : ∀ m, n <= m -> upN o m k = upN o n k
 | 0, hm => by obtain rfl : n = 0 := by omega
               rfl
 | m + 1, hm => by
   by_cases he : n = m + 1
   ·rw [he]
   ·have := rS h m (by omega)
    rw [iZ, this, if_pos h]
theorem sW {cs : List aC} {o : List Int} {k : Nat} {b : Int} (h : b < 0) : eS cs o k b = none := by
 unfold eS
 exact if_neg (by omega)
theorem uj {cs : List aC} {o : List Int} {k n : Nat} {b : Int} (h : upN o n k < 0) (hn : (n : Int) <= b) : eS cs o k b = none := by
 unfold eS
 rw [rS h b.toNat (by omega)]
 exact if_neg (by omega)
theorem w8 {cs : List aC} {o : List Int} {k j : Nat} {b : Int} {y : aC} (hb : 0 <= b) (h : upN o b.toNat k = j) (hj : cs[j]? = some y) : eS cs o k b = some y := by
 unfold eS
 rw [h, if_pos ⟨hb, by omega⟩, Int.toNat_natCast, hj]
theorem x3 {cs : List aC} {o : List Int} {k : Nat} (hinv : cT cs.length o) (hk : k < cs.length) {b : Int} {L : List Int} (hL : L = (gF o cs.length k).reverse) (h : 0 <= b /\ b <= (L.length : Int) - 1) :
   ∃ (q v : Nat) (y : aC), (L.length : Int) - 1 - b = q /\ (aN L)[q]? = some [.int .i64 (v : Int)] /\ cs[v]? = some y /\ eS cs o k b = some y := by
 obtain ⟨c, rfl⟩ : ∃ c : Nat, b = c := ⟨b.toNat, by omega⟩
 have hl : o.length = cs.length := hinv.1
 have hinv' : cT o.length o := by rw [hl]; exact hinv
 have hcl : L.length = (gF o cs.length k).length := by rw [hL, List.length_reverse]
 have hcu := na hinv' cs.length (k : Int) c (.inr ⟨by omega, by omega, by rw [hl]; omega⟩)
 have hc : c < (gF o cs.length k).length := by omega
 rw [List.getElem?_eq_getElem hc] at hcu
 split at hcu
 ·rename_i h0
  have hin := sU hinv' c k (.inr ⟨by omega, by omega⟩)
  obtain ⟨v, hv⟩ : ∃ v : Nat, upN o c k = v := ⟨(upN o c k).toNat, by omega⟩
  rw [hv] at hin hcu
  have hvl : v < cs.length := by omega
  refine ⟨L.length - 1 - c, v, cs[v], by omega, ?_, List.getElem?_eq_getElem hvl, w8 (by omega) (by rw [Int.toNat_natCast]; exact hv) (List.getElem?_eq_getElem hvl)⟩
  have hg : L[L.length - 1 - c]? = some (v : Int) := by
    rw [hL, List.getElem?_reverse (by rw [List.length_reverse]; omega), List.length_reverse]
    rw [show (gF o cs.length k).length - 1 - ((gF o cs.length k).length - 1 - c) = c by omega, List.getElem?_eq_getElem hc]
    exact hcu
  simp only [aN, List.getElem?_map, hg]; rfl
 ·cases hcu
theorem pe {cs : List aC} {o : List Int} {k : Nat} (hinv : cT cs.length o) (hk : k < cs.length) {b : Int} {L : List Int} (hL : L = (gF o cs.length k).reverse) (h : ¬ (0 <= b /\ b <= (L.length : Int) - 1)) : eS cs o k b = none := by
 by_cases h0 : b < 0
 ·exact sW h0
 obtain ⟨c, rfl⟩ : ∃ c : Nat, b = c := ⟨b.toNat, by omega⟩
 have hl : o.length = cs.length := hinv.1
 have hinv' : cT o.length o := by rw [hl]; exact hinv
 have hcl : L.length = (gF o cs.length k).length := by rw [hL, List.length_reverse]
 have hcu := na hinv' cs.length (k : Int) c (.inr ⟨by omega, by omega, by rw [hl]; omega⟩)
 rw [List.getElem?_eq_none (by omega)] at hcu
 split at hcu
 ·cases hcu
 ·rename_i h1
  unfold eS
  rw [Int.toNat_natCast]
  exact if_neg fun h => h1 h.2
def GL (w : World) : Prop := sS w
theorem dG : ay GL := ⟨fun _ _ h hb => sS.below h hb⟩
theorem afn (s : ByteArray) (hs : s.size <= 1048576) : Ct Tryz.prog GL 249 [.str s] (fun _ => .int .i64 (bY s.data.toList)) := pM fun w _ => lp s w hs
theorem ae2 (s : ByteArray) (hs : s.size <= 1048576) : Ct Tryz.prog GL 193 [.str s] (fun _ => .bool (cK s.data.toList)) := gR fun w _ => ek s w hs
theorem afm (s : ByteArray) (hs : s.size <= 1048576) : Ct Tryz.prog GL 219 [.str s] (fun _ => .int .i64 (bY s.data.toList)) := pM fun w hG => rz s w hs hG
theorem afi (s : ByteArray) (hs : s.size <= 1048576) : Ct Tryz.prog GL 218 [.str s] (fun _ => .bool (cK s.data.toList)) := gR fun w hG => oR s w hs hG
theorem aaA (r : Option (List Int)) : ∀ y : Nat × Nat, True -> (∀ s b o, (s, b, o) ∈ dO r y -> co (dO r y) o) /\ dy (dO r y) (dR r y) := fun y _ =>
 ⟨fun s b o h => by
   simp only [dO, List.mem_singleton, Prod.mk.injEq] at h
   obtain ⟨_, _, rfl⟩ := h
   exact eW (kP _), .tup _ fun t ht => by
   simp only [List.mem_cons, List.not_mem_nil, or_false] at ht
   rcases ht with rfl | rfl
   ·exact .ms _ _ _ _ _ _ List.mem_cons_self
   ·exact .flat _ rfl⟩
theorem ke (lo : Nat) (is : List ai) : d9 is = is.map (ai.tw lo) := rfl
noncomputable def acH (cs : List aC) (K : Nat) : TV := .tup [.sl K 1 (aN ((eT cs).getD [])), .bool (eT cs).isSome]
theorem gH {B L : Nat} {objs : aF} {r : Option (List Int)} (h : r = none) : Fin B objs L .nils (.sl L 1 (aN (r.getD []))) := by subst h; exact .nils 1
theorem eM {B L : Nat} {objs : aF} {r : Option (List Int)} (h : r = none) : Fin B objs L (.bool false) (.bool r.isSome) := by subst h; exact .bool false
theorem w9 {B L s b n : Nat} {objs : aF} {r : Option (List Int)} {o : List Int} (h : r = some o) (hn : o.length = n) (hm : (s, b, aZ.row 1 (aN o)) ∈ objs) : Fin B objs L (.ms s b 0 n) (.sl L 1 (aN (r.getD []))) := by
 subst h; subst hn
 have hl := aj o
 exact Fin.msFlat hm (by omega) (by rw [List.drop_zero, List.take_of_length_le (by omega)]; rfl) (kP o)
theorem pH {B L : Nat} {objs : aF} {r : Option (List Int)} {o : List Int} (h : r = some o) : Fin B objs L (.bool true) (.bool r.isSome) := by subst h; exact .bool true
section
variable {G : World -> Prop}
theorem nK (hst : ay G) (f lo : Nat) (ccl cen : TV) (cs : List aC) (mn : Int) (hcs : cs.length <= 1048576 /\ ∀ y ∈ cs, aC.small 1048576 y) :
   Ct Tryz.prog G 107 [.cp f [ccl, .sl lo 4 (cs.map (aC.tw lo)), cen, .int .i64 mn]] (acH cs) := by
 refine aq Tryz.func107 rfl Tryz.ntmps107 rfl rfl fun w0 _ hG => ?_
 have hl2 := aC.len lo cs
 have hcl := hcs.1
 have h0 : (List.replicate cs.length [TV.int .i64 0]) = aN (iI cs.length 0) := by simp [iI, aN]
 repeat' (first | refine W_ ?_ | (refine gn ?_; intro ss bb))
 generalize ss = sd; generalize bb = bd
 apply am (X := Nat) [0, 4] (fun i => [(5, .int .i64 (i : Int))]) (fun i => [(sd, bd, .row 1 (aN (iI cs.length i)))]) (fun i => i <= cs.length) (fun i => cs.length - i) 0 (Nat.zero_le _)
 exact kp_; exact nw_
 ·rw [<- h0]; exact .refl _
 intro i hi
 try dsimp only at hi |-
 by_cases hlt : i < cs.length
 ·obtain ⟨hrow, hset⟩ := qc hlt
  repeat' (first | refine W_ ?_ | refine bm ?_)
  rw [hset]
  refine ag (i + 1) (by omega) (by omega) (.of _ nw_ od_ (.refl _))
 ·obtain rfl : i = cs.length := by omega
  clear hlt hi
  have hfull : iI cs.length cs.length = List.replicate cs.length (-1) := by simp [iI]
  rw [hfull]
  have hst0 : fu cs 0 (List.replicate cs.length (-1)) = eT cs := rfl
  have hin0 := gO cs.length
  unfold acH
  generalize eT cs = R at hst0
  generalize List.replicate cs.length (-1 : Int) = o0 at hst0 hin0
  repeat' refine W_ ?_
  apply am (X := Nat × List Int) [0, 4] (fun x => [(6, .int .i64 (x.1 : Int))]) (fun x => [(sd, bd, .row 1 (aN x.2))]) (fun x => x.1 <= cs.length /\ cT cs.length x.2 /\ fu cs x.1 x.2 = R) (fun x => cs.length - x.1) (0, o0) ⟨Nat.zero_le _, hin0, hst0⟩
  exact kp_; exact nw_
  ·exact .refl _
  clear hin0 hst0
  rintro ⟨i, o⟩ ⟨hi, hin, hR⟩
  dsimp only at hi hin hR |-
  have hol : (aN o).length = cs.length := by rw [aj]; exact hin.1
  by_cases hlt : i < cs.length
  ·have hra := bN (lo := lo) hlt
   have hsm := hcs.2 _ (List.getElem_mem hlt)
   rw [l6 hlt] at hR
   generalize cs[i] = c at hra hsm hR
   obtain ⟨cb, cp, csl, is⟩ := c
   dsimp only at hra hR
   have hil := ai.len lo is
   have hisl : is.length <= 1048576 := hsm.1
   repeat' refine W_ ?_
   apply am (X := Nat × List Int) [0, 4, 6] (fun x => [(7, .int .i64 (x.1 : Int))]) (fun x => [(sd, bd, .row 1 (aN x.2))]) (fun x => x.1 <= is.length /\ cT cs.length x.2 /\ fC cs i (is.drop x.1) x.2 = R) (fun x => is.length - x.1) (0, o) ⟨Nat.zero_le _, hin, hR⟩
   exact kp_; exact nw_
   ·exact .refl _
   clear hin hR hol
   rintro ⟨k, o⟩ ⟨hk, hin, hR⟩
   dsimp only at hk hin hR |-
   have hol : (aN o).length = cs.length := by rw [aj]; exact hin.1
   by_cases hlk : k < is.length
   ·have hrk := i6 (lo := lo) hlk
    rw [lI hlk] at hR
    generalize is[k] = x at hrk hR
    obtain ⟨op, a, b, t⟩ := x
    unfold aaZ at hR
    dsimp only at hrk hR
    by_cases h15 : op = 15
    ·rw [if_pos h15] at hR
     have h15' : ¬ op ≠ 15 := fun h => h h15
     by_cases hin2 : 0 <= a /\ a <= (i : Int) - 1
     ·have cin := bg (G := G) a 0 ((i - 1 : Nat) : Int)
      rw [vl (by omega)] at cin
      obtain ⟨q, rfl⟩ : ∃ q : Nat, a = q := ⟨a.toNat, by omega⟩
      have hql : q < o.length := by rw [hin.1]; omega
      have hrq := eU hql
      have hqc : q < cs.length := by omega
      by_cases hg : 0 <= gd o (q : Int)
      ·rw [if_neg fun h => h.2 hg] at hR
       repeat' (first | refine W_ ?_ | (refine ak ?_; intro ss bb) | refine ac ?_ | refine ad hG hst (cin) ?_)
       refine ex x_ rfl (.tmp _ _ rfl) (.tmp _ _ rfl) (fun _ => ?_) (fun _ => ?_)
       ·exact gH hR.symm
       ·exact eM hR.symm
      ·rw [if_pos ⟨hin2, hg⟩, Int.toNat_natCast] at hR
       dsimp only at hR
       have hset := qC o q (i : Int)
       have hin3 := (mS (n := cs.length) (i := i) (x := ⟨15, q, b, t⟩) (o := o) (o' := o.set q (i : Int)) hlt (by unfold aaZ; rw [if_pos rfl, if_pos ⟨hin2, hg⟩, Int.toNat_natCast]) hin).1
       repeat' (first | refine W_ ?_ | (refine ak ?_; intro ss bb) | refine ac ?_ | refine ad hG hst (cin) ?_ | refine bm ?_)
       rw [hset]
       refine ag (k + 1, o.set q (i : Int)) ⟨by dsimp only; omega, hin3, hR⟩ (by dsimp only; omega) (.of _ nw_ od_ pk_)
     ·have cin := bg (G := G) a 0 ((i : Int) - 1)
      have cin' := bg (G := G) a 0 ((i - 1 : Nat) : Int)
      rw [abb hin2] at cin
      rw [if_neg fun h => hin2 h.1] at hR
      repeat' (first | refine W_ ?_ | (refine ak ?_; intro ss bb) | refine ac ?_ | refine ad hG hst (cin) ?_)
      refine ex x_ rfl (.tmp _ _ rfl) (.tmp _ _ rfl) (fun _ => ?_) (fun _ => ?_)
      ·exact gH hR.symm
      ·exact eM hR.symm
    ·rw [if_neg h15] at hR
     dsimp only at hR
     repeat' (first | refine W_ ?_ | (refine ak ?_; intro ss bb) | refine ac ?_)
     refine ag (k + 1, o) ⟨by dsimp only; omega, hin, hR⟩ (by dsimp only; omega) (.of _ nw_ od_ pk_)
   ·rw [od hlk] at hR
    repeat' refine W_ ?_
    refine ag (i + 1, o) ⟨by dsimp only; omega, hin, hR⟩ (by dsimp only; omega) (.of _ nw_ od_ pk_)
  ·rw [nz hlt] at hR
   repeat' refine W_ ?_
   apply am (X := Nat) [0, 4] (fun j => [(9, .int .i64 (j : Int))]) (fun _ => [(sd, bd, .row 1 (aN o))]) (fun j => j <= cs.length /\ ∀ q, q < j -> ∀ h : q < cs.length, cs[q].block = decide (0 <= gd o (q : Int))) (fun j => cs.length - j) 0 ⟨Nat.zero_le _, by omega⟩
   exact kp_; exact nw_
   ·exact .refl _
   rintro j ⟨hj, hja⟩
   try dsimp only
   by_cases hlj : j < cs.length
   ·have hra := bN (lo := lo) hlj
    have hrj := eU (o := o) (j := j) (by rw [hin.1]; exact hlj)
    have hbad := pV (o := o) hlj
    have hnx : cs[j].block = decide (0 <= gd o (j : Int)) -> ∀ q, q < j + 1 -> ∀ h : q < cs.length, cs[q].block = decide (0 <= gd o (q : Int)) := fun ho => ch hja fun _ => ho
    generalize cs[j] = c at hra hbad hnx
    obtain ⟨cb, cp, csl, is⟩ := c
    dsimp only at hra hbad hnx
    generalize gd o (j : Int) = v at hrj hbad hnx
    by_cases hb : cb = decide (0 <= v)
    ·repeat' (first | refine V_ ?_ | refine c_ (fun hc => ?_) (fun hc => ?_))
     all_goals first
       | exact ag (j + 1) ⟨by omega, hnx hb⟩ (by omega) (.of _ nw_ od_ pk_)
       | (exfalso; simp_all; done)
    ·rw [hbad hb] at hR
     repeat' (first | refine V_ ?_ | refine c_ (fun hc => ?_) (fun hc => ?_))
     all_goals first
       | (exfalso; simp_all; done)
       | (refine ex x_ rfl (.tmp _ _ rfl) (.tmp _ _ rfl) (fun _ => ?_) (fun _ => ?_)
          ·exact gH hR.symm
          ·exact eM hR.symm)
   ·rw [nf fun q hq => hja q (by omega)] at hR
    repeat' refine W_ ?_
    refine ex x_ rfl (.tmp _ _ rfl) (.tmp _ _ rfl) (fun _ => ?_) (fun _ => ?_)
    ·exact w9 hR.symm hin.1 List.mem_cons_self
    ·exact pH hR.symm
end
end Go.Proofs.YtigipcbnfeoliaaGreatDoor
