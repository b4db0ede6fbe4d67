/- Part 12 of the proof: the texts SdF, IvQ, IvR, IvT, IvJ. -/
import Derived.Test.YtofnnnpahglfdaaGreatDoorFo3
import Derived.Test.YtofnnnpahglfdaaGreatDoorFo9
import Derived.Test.YtofnnnpahglfdaaGreatDoorFo10
import Derived.Test.YtofnnnpahglfdaaGreatDoorFo4
set_option linter.all false
set_option maxHeartbeats 4000000
set_option maxRecDepth 20000
namespace Go.Proofs.YtofnnnpahglfdaaGreatDoor
open Go Go.RowKit
theorem qz {op : Int} {o : Nat} (h : o ∈ cA op) : o = 1 \/ o = 2 := by
 unfold cA at h
 repeat' split at h
 all_goals first
   | (simp at h; done)
   | (simp at h; omega)
   | skip
theorem tE (op : Int) : (cA op).length <= 2 := by
 unfold cA
 repeat' split
 all_goals simp
theorem oB (op : Int) (s b : Nat) : (xH op s b).length = (cA op).length := by simp [xH]
theorem wF {op : Int} {s b q : Nat} (h : q < (cA op).length) : (xH op s b)[q]? = some [.mp s b (cA op)[q]] := by simp [xH, h]
def qi (a b : Int) (o : Nat) : Int := if o = 1 then a else b
theorem qV (op a b : Int) (t : ByteArray) : ah.labs ⟨op, a, b, t⟩ = (cA op).map (qi a b) := adS op a b t
theorem w8 {α : Type} {p : α -> Bool} {l : List α} {q : Nat} (h : q < l.length) (ha : (l.take q).all p = true) : (l.take (q + 1)).all p = p l[q] := by
 rw [List.take_add_one, List.all_append, ha, List.getElem?_eq_getElem h]; simp
theorem z8 {α : Type} {p : α -> Bool} {l : List α} {q : Nat} (h : q < l.length) (hb : p l[q] = false) : l.all p = false := by
 rw [List.all_eq_false]; exact ⟨_, List.getElem_mem h, by rw [hb]; simp⟩
theorem zb (n : Nat) (p d : Int) (r : List (Int × Int)) (ds : List Int) (q : List Nat) : gj n ((p, d) :: r) (ds, q) = if uJ n ds p d then none else if gd ds p < 0 then gj n r (ds.set p.toNat d, q ++ [p.toNat]) else gj n r (ds, q) := rfl
def yv (op : Int) (t : ByteArray) : Bool := !inR op 1 26 || ((decide (op = 13) || decide (op = 14)) && decide (bQ t.data.toList < 0))
theorem sv (n : Nat) (op a b : Int) (t : ByteArray) : dw n ⟨op, a, b, t⟩ = (!yv op t && ((cA op).all fun o => inR (qi a b o) 0 ((n : Int) - 1))) := by
 unfold dw yv
 rw [qV, List.all_map]
 have h1 : decide (0 <= bQ t.data.toList) = !decide (bQ t.data.toList < 0) := by
   rw [<- decide_not]; exact decide_eq_decide.2 (by omega)
 rw [h1]
 cases inR op 1 26 <;> cases decide (op = 13) <;> cases decide (op = 14) <;> cases decide (bQ t.data.toList < 0) <;> rfl
theorem jt {G : World -> Prop} (hst : aB G) (hca : ∀ s : ByteArray, s.size <= 1048576 -> Ct Tryz.prog G 195 [.str s] (fun _ => .int .i64 (bQ s.data.toList)))
   (l2 : Nat) (bl : Bool) (pr sl : Int) (is : List ah) (hn : is.length <= 1048576) (ht : ∀ i ∈ is, i.text.size <= 1048576) :
   CtM Tryz.prog G 196 [.agg [.bool bl, .int .i64 pr, .int .i64 sl, .sl l2 4 (dW is)]] [] (fun _ : Nat × Nat => True) (dO (bP is)) (dR (bP is)) := by
 refine aC Tryz.func196 rfl Tryz.ntmps196 rfl rfl rfl fun w0 R gs objsR hG hR => ?_
 obtain rfl := hR.inv0
 clear hR
 have hlen := kn is
 by_cases hz : is.length = 0
 ·have hd : bP is = none := by unfold bP; rw [if_pos hz]
  rw [hd]
  repeat' (first | refine W_ ?_ | refine aD ?_)
  refine dT 2 1 (by omega) rfl fun ss => cD x_ rfl (ss, 0) trivial rfl (.cons _ _ _ _ (.nil R)) pk_ (.tmp _ _ rfl) (.tmp _ _ rfl) rfl
 have hnz : 0 < is.length := by omega
 have hc1 : ((is.length - 1 : Nat) : Int) = (is.length : Int) - 1 := by omega
 have hnone : jI is = false -> bP is = none := fun h => by unfold bP; rw [h]; simp
 repeat' (first | refine W_ ?_ | refine aD ?_)
 apply ak (X := Nat) [1, 4, 26, 1000000] (fun i => [(27, .int .i64 (i : Int))]) (fun _ => R) (fun i => i <= is.length /\ (is.take i).all (dw is.length) = true) (fun i => is.length - i) 0 ⟨Nat.zero_le _, rfl⟩
 exact kp_; exact nw_
 ·exact .refl _
 rintro i ⟨hi, hall⟩
 try dsimp only
 by_cases hlt : i < is.length
 ·have hii : (dW is)[i]? = some (is[i]).tv := by simp only [dW, List.getElem?_map]; rw [List.getElem?_eq_getElem hlt]; rfl
  have htk := w8 hlt hall
  have hbad := fun h => hnone (z8 (p := dw is.length) hlt h)
  have hti := ht _ (List.getElem_mem hlt)
  generalize is[i] = ii at hii hti htk hbad
  obtain ⟨op, a, b, t⟩ := ii
  rw [sv] at htk hbad
  replace hii : (dW is)[i]? = some [.int .i64 op, .int .i64 a, .int .i64 b, .str t] := hii
  replace hti : t.size <= 1048576 := hti
  repeat' (first | refine H_ 8 ?_ | (refine aj ?_; intro ss bb) | refine ac ?_)
  refine ⟨dp ?_⟩
  generalize ss = s6; generalize bb = b6
  apply fh (X := Unit) [1, 4, 6, 26, 27, 1000000] (fun _ => [(54, .bool (yv op t))]) (fun _ => (s6, b6, .box [.int .i64 op, .int .i64 a, .int .i64 b, .str t]) :: R) (fun _ => True)
  case hk => (repeat (first | exact jq.nil | (apply jq.cons; rfl)))
  ·clear hbad htk hall hii ht
   repeat' (first | refine W_ ?_ | refine ab hG hst (aN _ _ _) ?_ | refine ab hG hst (hca _ hti) ?_ | refine g_ (fun hg => ?_) (fun hg => ?_))
   all_goals
     refine dV () trivial (.of _ (dg.envCons (j2 rfl ?_) dg.envNil) od_ pk_)
     first
       | (simp [yv, *]; done)
       | (simp [yv, *]; simp [inR]; done)
  intro _ _
  by_cases hb1 : yv op t = true
  ·have hd := hbad (by rw [hb1]; rfl)
   rw [hb1, hd]
   repeat' (first | with_reducible refine cR rfl ?_ | ((with_reducible first | apply xW | apply mK); rfl; rfl) | with_reducible refine dp ?_ | with_reducible refine cg ?_ | with_reducible refine fB ?_ | with_reducible refine dJ ?_ | with_reducible refine cC ?_ | with_reducible refine dS ?_ | with_reducible refine dL ?_ | with_reducible refine fl ?_ | with_reducible refine bx ?_ | with_reducible refine ba rfl ?_ | with_reducible refine bu ?_ | with_reducible refine bF ?_ | with_reducible refine bv ?_ | with_reducible refine cQ ?_ | refine ce rfl rr_ ?_ | refine cf rfl rr_ ?_ | (refine bN rfl rr_ dd_ ?_) | (refine bO rfl rr_ dd_ ?_) | (refine dZ rfl rr_ (fun hc => ?_) (fun hc => ?_)) | (refine cW rfl rr_ (fun hc => ?_) (fun hc => ?_)))
   refine dT 2 1 (by omega) rfl fun ss => cD x_ rfl (ss, 0) trivial rfl (.cons _ _ _ _ (.nil R)) pk_ (.tmp _ _ rfl) (.tmp _ _ rfl) rfl
  rw [Bool.not_eq_true] at hb1
  rw [hb1] at htk hbad
  simp only [Bool.not_false, Bool.true_and] at htk hbad
  rw [hb1]
  have hlr := oB op s6 b6
  have hol := tE op
  repeat' (first | refine W_ ?_ | ((with_reducible apply aG); rfl; kernel_rfl; (repeat (first | exact aF.nil | ((with_reducible apply aF.cons); rfl))); exact hG; exact mZ s6 b6 op a b t; exact .cons _ _ _ _ (.nil _); intro y _; obtain ⟨sl5, bl5⟩ := y; refine aaG ?_))
  apply ak (X := Nat) [1, 4, 26, 27, 55, 56, 1000000] (fun q => [(57, .int .i64 (q : Int))]) (fun _ => (sl5, bl5, .row 1 (xH op s6 b6)) :: (s6, b6, .box [.int .i64 op, .int .i64 a, .int .i64 b, .str t]) :: R) (fun q => q <= (cA op).length /\ ((cA op).take q).all (fun o => inR (qi a b o) 0 ((is.length : Int) - 1)) = true) (fun q => (cA op).length - q) 0 ⟨Nat.zero_le _, rfl⟩
  exact kp_; exact nw_
  ·exact .refl _
  rintro q ⟨hq, hqa⟩
  try dsimp only
  by_cases hql : q < (cA op).length
  ·have hrow := wF (s := s6) (b := b6) hql
   have hqk := w8 hql hqa
   have hqb := fun h => hbad (z8 (p := fun o => inR (qi a b o) 0 ((is.length : Int) - 1)) hql h)
   have hmem := qz (List.getElem_mem hql)
   generalize (cA op)[q] = o at hrow hqk hqb hmem
   by_cases hin : inR (qi a b o) 0 ((is.length : Int) - 1) = true
   ·have hw : ∀ G, Ct Tryz.prog G 70 [.int .i64 (qi a b o), .int .i64 0, .int .i64 ((is.length - 1 : Nat) : Int)] (fun _ => .bool true) := fun G => by rw [hc1, <- hin]; exact aN _ _ _
    rcases hmem with rfl | rfl
    all_goals
      first | rw [show qi a b 1 = a from rfl] at hw | rw [show qi a b 2 = b from rfl] at hw
      repeat' (first | refine W_ ?_ | refine ab hG hst (hw _) ?_)
      exact ag (q + 1) ⟨by omega, by rw [hqk, hin]⟩ (by omega) (.of _ nw_ od_ pk_)
   ·rw [Bool.not_eq_true] at hin
    have hd := hqb hin
    rw [hd]
    have hw : ∀ G, Ct Tryz.prog G 70 [.int .i64 (qi a b o), .int .i64 0, .int .i64 ((is.length - 1 : Nat) : Int)] (fun _ => .bool false) := fun G => by rw [hc1, <- hin]; exact aN _ _ _
    rcases hmem with rfl | rfl
    all_goals
      first | rw [show qi a b 1 = a from rfl] at hw | rw [show qi a b 2 = b from rfl] at hw
      repeat' (first | refine W_ ?_ | refine ab hG hst (hw _) ?_)
      refine dT 2 1 (by omega) rfl fun ss => cD x_ rfl (ss, 0) trivial rfl (.cons _ _ _ _ (.nil R)) pk_ (.tmp _ _ rfl) (.tmp _ _ rfl) rfl
  ·rw [List.take_of_length_le (by omega)] at hqa
   rw [hqa] at htk
   repeat' refine W_ ?_
   exact ag (i + 1) ⟨by omega, htk⟩ (by omega) (.of _ nw_ od_ pk_)
 ·rw [List.take_of_length_le (by omega)] at hall
  have hd : bP is = qK is (lD is) is.length (0 :: List.replicate (is.length - 1) (-1)) [0] := by
    unfold bP; rw [if_neg hz, if_pos (show jI is = true from hall)]
  have hn1 : 1 <= is.length := hnz
  have hset : (aS (List.replicate is.length (-1))).set 0 [.int .i64 0] = aS (0 :: List.replicate (is.length - 1) (-1)) := by
    have e : is.length = (is.length - 1) + 1 := by omega
    rw [e, List.replicate_succ]; rfl
  have hrow0 : (aS (List.replicate is.length (-1)))[0]? = some [.int .i64 (-1)] := by
    have e : is.length = (is.length - 1) + 1 := by omega
    rw [e, List.replicate_succ]; rfl
  have hrep := fun lo => uB (G := G) lo is.length hn1 hn
  repeat' (first | refine H_ 19 ?_ | refine cH ?_ | refine bE ?_ | ((with_reducible apply aG); rfl; kernel_rfl; (repeat (first | exact aF.nil | ((with_reducible apply aF.cons); rfl))); exact hG; exact hrep _; exact .nil _; intro y _; obtain ⟨ss, bb⟩ := y; refine bm ?_))
  refine ⟨?_⟩
  generalize ss = sd; generalize bb = bd
  repeat' (first | refine W_ ?_ | (refine kQ ?_; intro ss bb))
  generalize ss = st; generalize bb = bt
  rw [hset]
  have hpo : jI is = true := hall
  clear hset hrow0 hrep hlt hnone hall hi
  apply ak (X := List Int × List Nat × List (List TV) × Nat × Nat) [1, 4, 9, 1000000] (fun x => [(10, .ms st x.2.2.2.1 x.2.2.1.length x.2.1.length)]) (fun x => (st, x.2.2.2.1, .row 1 (x.2.2.1 ++ aS (nts x.2.1))) :: (sd, bd, .row 1 (aS x.1)) :: R)
    (fun x => x.2.2.2.2 <= is.length /\ DSt is.length x.1 x.2.1 x.2.2.2.2 /\ qK is (lD is) x.2.2.2.2 x.1 x.2.1 = bP is) (fun x => x.2.2.2.2) (0 :: List.replicate (is.length - 1) (-1), [0], [], bt, is.length) ⟨Nat.le_refl _, mP hn1, hd.symm⟩
  exact kp_; exact nw_
  ·exact .refl _
  rintro ⟨ds, q, pre, bt, f⟩ ⟨hf, hD, hfl⟩
  dsimp only at hf hD hfl |-
  cases q with
  | nil =>
    have hdl := hD.len
    have hd' : bP is = some ds := by rw [<- hfl]; simp [qK]
    have h00 : ([] : List Nat).length = 0 := rfl
    rw [hd']
    repeat' refine W_ ?_
    refine cD x_ rfl (sd, bd) trivial rfl (.cons _ _ _ _ (.nil R)) pk_ (.tmp _ _ rfl) (.tmp _ _ rfl) (by simp [dR, hdl])
  | cons p q =>
  obtain ⟨j, rfl, hD', hpn, hg0⟩ := hD.pop
  clear hD
  have hlc : (p :: q).length = q.length + 1 := rfl
  rw [ik _ _ _ _ _ hpn] at hfl
  have hrange := hD'.inv.gd (p : Nat)
  have hdl := hD'.len
  have hmu := hD'.mu
  have hgp : (pre ++ aS (nts (p :: q)))[pre.length + 0]? = some [.int .i64 (p : Int)] := by
    rw [Nat.add_zero, List.getElem?_append_right (Nat.le_refl _), Nat.sub_self]; rfl
  have hdi : (aS ds)[p]? = some [.int .i64 (gd ds (p : Nat))] := by
    have h9 := pU (ds := ds) (p := p) (by omega)
    simp only [aS, List.getElem?_map]
    rw [List.getElem?_eq_getElem (by omega), h9]; rfl
  have hii : (dW is)[p]? = some (is[p]).tv := by simp only [dW, List.getElem?_map]; rw [List.getElem?_eq_getElem hpn]; rfl
  have hpi : dw is.length is[p] = true := List.all_eq_true.1 hpo _ (List.getElem_mem _)
  have hti := ht _ (List.getElem_mem hpn)
  generalize is[p] = ii at hfl hii hpi hti
  obtain ⟨op, a, b, t⟩ := ii
  replace hti : t.size <= 1048576 := hti
  have her := iy ⟨op, a, b, t⟩
  have hop : inR op 1 26 = true := by simp only [dw, Bool.and_eq_true] at hpi; exact hpi.1.1
  have hef := tT hst hca op a b t hti hop
  have hnx := adl hst hca op a b t p (gd ds p) hti hop (by omega) ⟨hg0, hrange.2⟩
  replace hii : (dW is)[p]? = some [.int .i64 op, .int .i64 a, .int .i64 b, .str t] := hii
  have hstep : lD is ⟨op, a, b, t⟩ p ds = if gd ds p < (ah.eff ⟨op, a, b, t⟩).1 then none else if (ah.labs ⟨op, a, b, t⟩).any (gc is p op) then none else gj is.length (ah.nexts ⟨op, a, b, t⟩ p (gd ds p)) (ds, []) := rfl
  rw [hstep, qV, List.any_map] at hfl
  clear hstep
  have hpi0 := hpi
  rw [sv, Bool.and_eq_true] at hpi
  have hlb := hpi.2
  clear hpi
  have hn0 : ¬ gd ds p < (ah.eff ⟨op, a, b, t⟩).1 -> ∀ x ∈ ah.nexts ⟨op, a, b, t⟩ p (gd ds p), 0 <= x.2 := fun h => fD ⟨op, a, b, t⟩ p (gd ds p) hg0 h fun h14 => by
    have := hpi0
    simp only [dw, Bool.and_eq_true] at this
    have h3 := this.1.2
    simp [show op = 14 from h14] at h3
    simp [ah.eff, show op = 14 from h14]; exact h3
  clear hpi0
  have hnl := uc ⟨op, a, b, t⟩ p (gd ds p)
  generalize ah.nexts ⟨op, a, b, t⟩ p (gd ds p) = L at *
  generalize (ah.eff ⟨op, a, b, t⟩).1 = e1 at *
  generalize (ah.eff ⟨op, a, b, t⟩).2 = e2 at *
  generalize hgg : gd ds (p : Int) = g at *
  by_cases hlt : g < e1
  ·rw [if_pos hlt] at hfl
   rw [<- hfl]
   repeat' (first | refine W_ ?_ | refine acT ?_ | (refine aj ?_; intro ss bb) | refine ac ?_ | refine ab hG hst (hef) ?_)
   refine dT 2 1 (by omega) rfl fun ss => cD x_ rfl (ss, 0) trivial rfl (.cons _ _ _ _ (.nil R)) pk_ (.tmp _ _ rfl) (.tmp _ _ rfl) rfl
  rw [if_neg hlt] at hfl
  replace hn0 := hn0 hlt
  have hlr := fun s b => oB op s b
  have hol := tE op
  repeat' (first | refine W_ ?_ | refine acT ?_ | (refine aj ?_; intro ss bb) | refine ac ?_ | refine ab hG hst (hef) ?_ | ((with_reducible apply aG); rfl; kernel_rfl; (repeat (first | exact aF.nil | ((with_reducible apply aF.cons); rfl))); exact hG; exact mZ ss bb op a b t; exact .cons _ _ _ _ (.nil _); intro y _; obtain ⟨sl5, bl5⟩ := y; refine aaG ?_))
  generalize ss = s6; generalize bb = b6
  have hlr6 := hlr s6 b6
  clear hlr
  apply ak (X := Nat) [1, 4, 9, 11, 12, 100, 101, 1000000] (fun k => [(102, .int .i64 (k : Int)), (10, .ms st bt (pre ++ [[TV.int .i64 (p : Int)]]).length q.length)]) (fun _ => (sl5, bl5, .row 1 (xH op s6 b6)) :: (s6, b6, .box [.int .i64 op, .int .i64 a, .int .i64 b, .str t]) :: (st, bt, .row 1 ((pre ++ [[TV.int .i64 (p : Int)]]) ++ aS (nts q))) :: (sd, bd, .row 1 (aS ds)) :: R)
    (fun k => k <= (cA op).length /\ ((cA op).take k).any (gc is p op ∘ qi a b) = false) (fun k => (cA op).length - k) 0 ⟨Nat.zero_le _, rfl⟩
  (repeat (first | exact jq.nil | (apply jq.cons; rfl)))
  ·(repeat (first | exact dg.envNil | refine dg.envCons (by first | rfl | exact aeF rfl (by simp) (by simp)) ?_))
  ·refine .cons (.head _) (.cons (.head _) ?_)
   rw [List.append_assoc]
   exact .refl _
  have hpr : (pre ++ [[TV.int .i64 (p : Int)]]).length = pre.length + 1 := by simp
  generalize pre ++ [[TV.int .i64 (p : Int)]] = pre1 at *
  rintro k ⟨hk, hka⟩
  try dsimp only
  by_cases hkl : k < (cA op).length
  ·have hrow := wF (s := s6) (b := b6) hkl
   have hkk : ((cA op).take (k + 1)).any (gc is p op ∘ qi a b) = (gc is p op ∘ qi a b) (cA op)[k] := by
     rw [List.take_add_one, List.any_append, hka, List.getElem?_eq_getElem hkl]; simp
   have hkb : (gc is p op ∘ qi a b) (cA op)[k] = true -> (cA op).any (gc is p op ∘ qi a b) = true := fun h => List.any_eq_true.2 ⟨_, List.getElem_mem hkl, h⟩
   have hmem := qz (List.getElem_mem hkl)
   have hin := List.all_eq_true.1 hlb _ (List.getElem_mem hkl)
   generalize (cA op)[k] = o at hrow hkk hkb hmem hin
   dsimp only [Function.comp] at hkk hkb
   simp only [inR, decide_eq_true_eq] at hin
   obtain ⟨vn, hvn⟩ : ∃ vn : Nat, qi a b o = (vn : Int) := ⟨(qi a b o).toNat, by omega⟩
   rw [hvn] at hkk hkb hin
   have hvl : vn < is.length := by omega
   repeat' refine H_ 30 ?_
   refine ⟨dp ?_⟩
   apply fh (X := Unit) [1, 4, 9, 10, 11, 12, 100, 101, 102, 1000000] (fun _ => [(126, .bool (gc is p op (vn : Int)))]) (fun _ => (sl5, bl5, .row 1 (xH op s6 b6)) :: (s6, b6, .box [.int .i64 op, .int .i64 a, .int .i64 b, .str t]) :: (st, bt, .row 1 (pre1 ++ aS (nts q))) :: (sd, bd, .row 1 (aS ds)) :: R) (fun _ => True)
   case hk => (repeat (first | exact jq.nil | (apply jq.cons; rfl)))
   ·have hri : (dW is)[vn]? = some (is[vn]).tv := by simp only [dW, List.getElem?_map]; rw [List.getElem?_eq_getElem hvl]; rfl
    have hoa : ae6 is (vn : Int) = is[vn].op := by simp [ae6, hvl]
    clear hkk hkb hka hlb hfl hnx hef hpo ht
    generalize is[vn] = iu at hri hoa
    obtain ⟨op', a', b', t'⟩ := iu
    replace hri : (dW is)[vn]? = some [.int .i64 op', .int .i64 a', .int .i64 b', .str t'] := hri
    have hbs : gc is p op (vn : Int) = (!decide (op = 26) && decide ((vn : Int) <= p) && !decide (op' = 23)) := by simp [gc, hoa]
    rw [hbs]
    have hw3 : op = 26 \/ (¬ op = 26 /\ (vn : Int) <= p) \/ (¬ op = 26 /\ ¬ (vn : Int) <= p) := by omega
    rcases hmem with rfl | rfl
    all_goals
      first
        | obtain rfl : a = (vn : Int) := hvn
        | obtain rfl : b = (vn : Int) := hvn
      rcases hw3 with h26 | ⟨h26, hle⟩ | ⟨h26, hle⟩
      all_goals
        repeat' refine V_ ?_
        refine dV () trivial (.of _ nw_ od_ pk_)
   ·intro _ _
    by_cases hbk : gc is p op (vn : Int) = true
    ·rw [hkb hbk, if_pos rfl] at hfl
     rw [hbk, <- hfl]
     repeat' (first | with_reducible refine cR rfl ?_ | ((with_reducible first | apply xW | apply mK); rfl; rfl) | with_reducible refine dp ?_ | with_reducible refine cg ?_ | with_reducible refine fB ?_ | with_reducible refine dJ ?_ | with_reducible refine cC ?_ | with_reducible refine dS ?_ | with_reducible refine dL ?_ | with_reducible refine fl ?_ | with_reducible refine bx ?_ | with_reducible refine ba rfl ?_ | with_reducible refine bu ?_ | with_reducible refine bF ?_ | with_reducible refine bv ?_ | with_reducible refine cQ ?_ | refine ce rfl rr_ ?_ | refine cf rfl rr_ ?_ | (refine bN rfl rr_ dd_ ?_) | (refine bO rfl rr_ dd_ ?_) | (refine dZ rfl rr_ (fun hc => ?_) (fun hc => ?_)) | (refine cW rfl rr_ (fun hc => ?_) (fun hc => ?_)))
     refine dT 2 1 (by omega) rfl fun ss => cD x_ rfl (ss, 0) trivial rfl (.cons _ _ _ _ (.nil R)) pk_ (.tmp _ _ rfl) (.tmp _ _ rfl) rfl
    ·rw [Bool.not_eq_true] at hbk
     rw [hbk]
     repeat' refine W_ ?_
     exact ag (k + 1) ⟨by omega, by rw [hkk, hbk]⟩ (by omega) (.of _ nw_ od_ pk_)
  ·rw [List.take_of_length_le (by omega)] at hka
   rw [hka, if_neg (by simp)] at hfl
   repeat' (first | refine V_ ?_ | refine ae hG hst (hnx) ?_)
   clear hka hlb hef hnx hmu
   apply ak (X := Nat × List Int × List Nat × Nat × List (List TV)) [1, 4, 9, 134, 135, 1000000] (fun x => [(136, .int .i64 (x.1 : Int)), (10, .ms st x.2.2.2.1 x.2.2.2.2.length (q.length + x.2.2.1.length))])
     (fun x => (st, x.2.2.2.1, .row 1 (x.2.2.2.2 ++ aS (nts (q ++ x.2.2.1)))) :: (sd, bd, .row 1 (aS x.2.1)) :: R)
     (fun x => x.1 <= L.length /\ x.2.1.length = is.length /\ x.2.2.1.length <= x.1 /\ gj is.length (L.drop x.1) (x.2.1, x.2.2.1) = gj is.length L (ds, [])) (fun x => L.length - x.1) (0, ds, [], bt, pre1) ⟨Nat.zero_le _, hdl, Nat.zero_le _, rfl⟩
   exact kp_; exact nw_
   ·rw [List.append_nil]; exact pk_
   rintro ⟨k, ds', new, bt', pre'⟩ ⟨hk, hdl', hnw, hpu⟩
   dsimp only at hk hdl' hnw hpu |-
   have hqf : q.length <= is.length := by have := hD'.mu; omega
   by_cases hkl : k < L.length
   ·rw [List.drop_eq_getElem_cons hkl] at hpu
    have hrow : (plR L)[k]? = some [.int .i64 L[k].1, .int .i64 L[k].2] := by simp [plR, hkl]
    generalize L[k] = uv at hpu hrow
    obtain ⟨u, v⟩ := uv
    dsimp only at hrow
    rw [zb] at hpu
    repeat' (first | ((with_reducible apply o_y); exact y_; rfl) | (refine aj ?_; intro ss bb) | refine ac ?_ | with_reducible refine sx (id := 10) ?_  | with_reducible refine cR rfl ?_ | (with_reducible first | apply dp | apply cg | apply fB | apply dJ | apply cC | apply dS | apply dL | apply fl | apply bx | apply (ba rfl) | apply bu | apply bF | apply bv | apply cQ) | refine iJ rfl rfl rfl rr_ ?_ | refine fq rfl rfl rfl rr_ rfl rfl rfl ?_ | refine d7 rfl rfl rfl rr_ rfl rfl ?_ | (refine nL rfl rfl rfl rr_ dd_ ?_) | (refine ox rfl rfl rfl rr_ dd_ ?_) | (refine dx rfl rfl rfl rr_ (fun hg => ?_) (fun hg => ?_)) | (refine dl rfl rfl rfl rr_ (fun hg => ?_) (fun hg => ?_)) | refine ce rfl rr_ ?_ | refine cf rfl rr_ ?_ | (refine bN rfl rr_ dd_ ?_) | (refine bO rfl rr_ dd_ ?_) | (refine dZ rfl rr_ (fun hc => ?_) (fun hc => ?_)) | (refine cW rfl rr_ (fun hc => ?_) (fun hc => ?_)))
    refine ⟨cC (dp ?_)⟩
    generalize ss = s8; generalize bb = b8
    apply fh (X := Unit) [1, 4, 9, 10, 18, 134, 135, 136, 1000000] (fun _ => [(140, .bool (uJ is.length ds' u v))]) (fun _ => (s8, b8, .box [.int .i64 u, .int .i64 v]) :: (st, bt', .row 1 (pre' ++ aS (nts (q ++ new)))) :: (sd, bd, .row 1 (aS ds')) :: R) (fun _ => True)
    case hk => (repeat (first | exact jq.nil | (apply jq.cons; rfl)))
    ·clear hpu hfl hn0 hpo ht
     by_cases hin : inR u 0 ((is.length : Int) - 1) = true
     ·have hw : ∀ G, Ct Tryz.prog G 70 [.int .i64 u, .int .i64 0, .int .i64 ((is.length - 1 : Nat) : Int)] (fun _ => .bool true) := fun G => by rw [hc1, <- hin]; exact aN _ _ _
      have hin2 : 0 <= u /\ u <= (is.length : Int) - 1 := by simpa [inR] using hin
      obtain ⟨un, rfl⟩ : ∃ un : Nat, u = (un : Int) := ⟨u.toNat, by omega⟩
      have hun : un < is.length := by omega
      have hrd : (aS ds')[un]? = some [.int .i64 (gd ds' (un : Int))] := by
        have h9 := pU (ds := ds') (p := un) (by omega)
        simp only [aS, List.getElem?_map]
        rw [List.getElem?_eq_getElem (by omega), h9]; rfl
      have hbs : uJ is.length ds' (un : Int) v = (decide (250 < v) || (decide (0 <= gd ds' (un : Int)) && !decide (gd ds' (un : Int) = v))) := by simp [uJ, hin]
      rw [hbs]
      generalize gd ds' (un : Int) = gv at hrd |-
      have hw3 : 250 < v \/ (¬ 250 < v /\ 0 <= gv) \/ (¬ 250 < v /\ ¬ 0 <= gv) := by omega
      rcases hw3 with h250 | ⟨h250, hg0'⟩ | ⟨h250, hg0'⟩
      all_goals
        repeat' (first | refine V_ ?_ | refine ae hG hst (hw _) ?_)
        refine dV () trivial (.of _ (dg.envCons (j2 rfl (by simp [*])) dg.envNil) od_ pk_)
     ·rw [Bool.not_eq_true] at hin
      have hw : ∀ G, Ct Tryz.prog G 70 [.int .i64 u, .int .i64 0, .int .i64 ((is.length - 1 : Nat) : Int)] (fun _ => .bool false) := fun G => by rw [hc1, <- hin]; exact aN _ _ _
      have hbs : uJ is.length ds' u v = true := by simp [uJ, hin]
      rw [hbs]
      repeat' (first | refine V_ ?_ | refine ae hG hst (hw _) ?_)
      refine dV () trivial (.of _ nw_ od_ pk_)
    ·intro _ _
     by_cases hb : uJ is.length ds' u v = true
     ·rw [if_pos hb] at hpu
      rw [<- hpu] at hfl
      dsimp only at hfl
      rw [hb, <- hfl]
      repeat' (first | with_reducible refine cR rfl ?_ | ((with_reducible first | apply xW | apply mK); rfl; rfl) | with_reducible refine dp ?_ | with_reducible refine cg ?_ | with_reducible refine fB ?_ | with_reducible refine dJ ?_ | with_reducible refine cC ?_ | with_reducible refine dS ?_ | with_reducible refine dL ?_ | with_reducible refine fl ?_ | with_reducible refine bx ?_ | with_reducible refine ba rfl ?_ | with_reducible refine bu ?_ | with_reducible refine bF ?_ | with_reducible refine bv ?_ | with_reducible refine cQ ?_ | refine ce rfl rr_ ?_ | refine cf rfl rr_ ?_ | (refine bN rfl rr_ dd_ ?_) | (refine bO rfl rr_ dd_ ?_) | (refine dZ rfl rr_ (fun hc => ?_) (fun hc => ?_)) | (refine cW rfl rr_ (fun hc => ?_) (fun hc => ?_)))
      refine dT 2 1 (by omega) rfl fun ss => cD x_ rfl (ss, 0) trivial rfl (.cons _ _ _ _ (.nil R)) pk_ (.tmp _ _ rfl) (.tmp _ _ rfl) rfl
     ·rw [if_neg hb] at hpu
      have hin : inR u 0 ((is.length : Int) - 1) = true := by
        cases h : inR u 0 ((is.length : Int) - 1)
        ·exact absurd (by simp [uJ, h]) hb
        ·rfl
      rw [Bool.not_eq_true] at hb
      rw [hb]
      have hin2 : 0 <= u /\ u <= (is.length : Int) - 1 := by simpa [inR] using hin
      obtain ⟨un, rfl⟩ : ∃ un : Nat, u = (un : Int) := ⟨u.toNat, by omega⟩
      have hun : un < is.length := by omega
      have hrd : (aS ds')[un]? = some [.int .i64 (gd ds' (un : Int))] := by
        have h9 := pU (ds := ds') (p := un) (by omega)
        simp only [aS, List.getElem?_map]
        rw [List.getElem?_eq_getElem (by omega), h9]; rfl
      have hrl : pre'.length + (q.length + new.length) <= (pre' ++ aS (nts (q ++ new))).length := by simp [aS, nts]
      have hlive : ((pre' ++ aS (nts (q ++ new))).drop pre'.length).take (q.length + new.length) = aS (nts (q ++ new)) := by
        rw [List.drop_left, List.take_of_length_le (by simp [aS, nts])]
      by_cases hgn : gd ds' (un : Int) < 0
      ·rw [if_pos hgn] at hpu
       have hset : (aS ds').set un [.int .i64 v] = aS (ds'.set un v) := rU ds' un v
       repeat' (first | refine W_ ?_ | refine bE ?_ | refine cH ?_ | (refine ae9 ?_; intro bb pp))
       refine ag (k + 1, ds'.set un v, new ++ [un], bb, pp) ⟨by dsimp only; omega, by simp [hdl'], by simp; omega, by dsimp only; rw [<- hpu]; rfl⟩ (by dsimp only; omega) (.of _ nw_ od_ pk_)
      ·rw [if_neg hgn] at hpu
       repeat' refine W_ ?_
       refine ag (k + 1, ds', new, bt', pre') ⟨by dsimp only; omega, hdl', by dsimp only; omega, by dsimp only; exact hpu⟩ (by dsimp only; omega) (.of _ nw_ od_ pk_)
   ·rw [List.drop_of_length_le (by omega)] at hpu
    rw [<- hpu] at hfl
    dsimp only [gj] at hfl
    repeat' refine W_ ?_
    refine ag (ds', q ++ new, pre', bt', j) ⟨by dsimp only; omega, ?_, by dsimp only; exact hfl⟩ (by dsimp only; omega) (.of _ nw_ od_ pk_)
    dsimp only
    exact jg L ds q [] (ds', new) hn0 (by rw [List.append_nil]; exact hD') hpu.symm
def rm (cs : List aA) (k n : Int) : Prop := ∃ x, cs[k.toNat]? = some x /\ x.block = false /\ x.params = n
theorem gI {cs : List aA} {k n : Int} {j : Nat} {x : aA} (hk : k = j) (hx : cs[j]? = some x) : rm cs k n ↔ x.block = false /\ x.params = n := by
 unfold rm
 subst hk
 rw [Int.toNat_natCast, hx]
 constructor
 ·rintro ⟨y, hy, h⟩; cases hy; exact h
 ·exact fun h => ⟨x, rfl, h⟩
def ey (nc : Nat) (cs : List aA) (e : az) : Prop :=
 (bY e.selector.data.toList = true /\ inR e.owner 16 ((nc : Int) - 1) = true /\ inR e.code 0 ((cs.length : Int) - 1) = true) /\ rm cs e.code (bQ e.selector.data.toList)
def ee (e f : az) : Prop := f.owner = e.owner /\ f.class_ = e.class_ /\ f.selector = e.selector
def dr (es : List az) (i : Nat) (e : az) : Prop := ∀ f ∈ es.take i, ¬ ee e f
def kN (nc : Nat) (cs : List aA) (es : List az) : Prop := ∀ (i : Nat) (h : i < es.length), ey nc cs es[i] /\ dr es i es[i]
open Classical in
noncomputable def fc (nc : Nat) (cs : List aA) (es : List az) : Bool := decide (kN nc cs es /\ es.length <= 96)
theorem uV {nc : Nat} {cs : List aA} {es : List az} {i : Nat} (h : i < es.length) (hb : ¬ (ey nc cs es[i] /\ dr es i es[i])) : ¬ kN nc cs es := fun k => hb (k i h)
theorem uu {nc : Nat} {cs : List aA} {es : List az} (h : ∀ j, j < es.length -> ∀ h : j < es.length, ey nc cs es[j] /\ dr es j es[j]) : kN nc cs es := fun i hi => h i hi hi
open Classical in
theorem mc {nc : Nat} {cs : List aA} {es : List az} {i : Nat} (h : i < es.length) (hb : ¬ (ey nc cs es[i] /\ dr es i es[i])) : fc nc cs es = false := decide_eq_false fun k => uV h hb k.1
open Classical in
theorem kt {nc : Nat} {cs : List aA} {es : List az} (h : ∀ j, j < es.length -> ∀ h : j < es.length, ey nc cs es[j] /\ dr es j es[j]) : fc nc cs es = decide ((es.length : Int) <= 96) := by
 unfold fc
 rw [decide_eq_decide]
 exact ⟨fun h => by omega, fun k => ⟨uu h, by omega⟩⟩
open Classical in
theorem qP {nc : Nat} {cs : List aA} {es : List az} (h : ¬ es.length <= 96) : fc nc cs es = false := decide_eq_false fun k => h k.2
def abk (i : Nat) (x : ah) (o : List Int) : Option (List Int) :=
 if x.op = 15 then (if (0 <= x.a /\ x.a <= (i : Int) - 1) /\ ¬ 0 <= gd o x.a then some (o.set x.a.toNat i) else none) else some o
def lL (i : Nat) : List ah -> List Int -> Option (List Int)
 | [], o => some o
 | x :: r, o => match abk i x o with
   | none => none
   | some o' => lL i r o'
def sQ : Nat -> List aA -> List Int -> Option (List Int)
 | _, [], o => some o
 | i, x :: r, o => match lL i x.instrs o with
   | none => none
   | some o' => sQ (i + 1) r o'
def sj (cs : List aA) (o : List Int) : Prop := ∀ (i : Nat) (h : i < cs.length), cs[i].block = decide (0 <= gd o (i : Int))
open Classical in
noncomputable def ga (cs : List aA) : Option (List Int) -> Option (List Int)
 | none => none
 | some o => if sj cs o then some o else none
noncomputable def fj (cs : List aA) (i : Nat) (r : List ah) (o : List Int) : Option (List Int) := ga cs (match lL i r o with
   | none => none
   | some o' => sQ (i + 1) (cs.drop (i + 1)) o')
noncomputable def fy (cs : List aA) (i : Nat) (o : List Int) : Option (List Int) := ga cs (sQ i (cs.drop i) o)
noncomputable def ep (cs : List aA) : Option (List Int) := fy cs 0 (List.replicate cs.length (-1))
theorem lW {cs : List aA} {i : Nat} (h : i < cs.length) (o : List Int) : fy cs i o = fj cs i cs[i].instrs o := by
 unfold fy fj
 rw [List.drop_eq_getElem_cons h]; rfl
theorem oF {cs : List aA} {i : Nat} (h : ¬ i < cs.length) (o : List Int) : fy cs i o = ga cs (some o) := by
 unfold fy
 rw [List.drop_of_length_le (by omega)]; rfl
theorem lY {cs : List aA} {i k : Nat} {is : List ah} (h : k < is.length) (o : List Int) : fj cs i (is.drop k) o = match abk i is[k] o with
   | none => none
   | some o' => fj cs i (is.drop (k + 1)) o' := by
 unfold fj
 rw [List.drop_eq_getElem_cons h]
 show ga cs (match (match abk i is[k] o with | none => none | some o' => lL i (is.drop (k + 1)) o') with | none => none | some o' => sQ (i + 1) (cs.drop (i + 1)) o') = _
 cases abk i is[k] o <;> rfl
theorem mW {cs : List aA} {i k : Nat} {is : List ah} (h : ¬ k < is.length) (o : List Int) : fj cs i (is.drop k) o = fy cs (i + 1) o := by
 unfold fj fy
 rw [List.drop_of_length_le (by omega)]; rfl
theorem tY {o : List Int} {a b : Nat} {v : Int} (h : a ≠ b) : gd (o.set a v) (b : Int) = gd o (b : Int) := by
 simp [gd, List.getElem?_set, h]
theorem kx {o : List Int} {a : Nat} {v : Int} (h : a < o.length) : gd (o.set a v) (a : Int) = v := by
 simp [gd, List.getElem?_set, h]
def cE (n : Nat) (o : List Int) : Prop := o.length = n /\ ∀ j : Nat, j < n -> gd o j = -1 \/ ((j : Int) < gd o j /\ gd o j < n)
theorem gu (n : Nat) : cE n (List.replicate n (-1)) := ⟨by simp, fun j hj => .inl (by simp [gd, hj])⟩
theorem mU {n i : Nat} {x : ah} {o o' : List Int} (hi : i < n) (h : abk i x o = some o') (ho : cE n o) : cE n o' /\ ∀ j : Nat, 0 <= gd o j -> 0 <= gd o' j := by
 unfold abk at h
 split at h
 ·split at h
  ·rename_i h1
   cases h
   obtain ⟨a, ha⟩ : ∃ a : Nat, x.a = a := ⟨x.a.toNat, by omega⟩
   rw [ha] at h1 |-
   rw [Int.toNat_natCast]
   have hal : a < n := by omega
   refine ⟨⟨by simp [ho.1], fun j hj => ?_⟩, fun j hj => ?_⟩
   ·by_cases hja : a = j
    ·subst hja
     rw [kx (by rw [ho.1]; exact hal)]
     exact .inr ⟨by omega, by omega⟩
    ·rw [tY hja]; exact ho.2 j hj
   ·by_cases hja : a = j
    ·subst hja
     rw [kx (by rw [ho.1]; exact hal)]; omega
    ·rw [tY hja]; exact hj
  ·cases h
 ·cases h; exact ⟨ho, fun j hj => hj⟩
theorem gl {n i : Nat} (hi : i < n) : ∀ {r : List ah} {o o' : List Int}, lL i r o = some o' -> cE n o -> cE n o' /\ ∀ j : Nat, 0 <= gd o j -> 0 <= gd o' j
 | [], o, o', h, ho => by cases h; exact ⟨ho, fun _ hj => hj⟩
 | x :: r, o, o', h, ho => by
   unfold lL at h
   split at h
   ·cases h
   ·rename_i o1 h1
    obtain ⟨h2, h3⟩ := mU hi h1 ho
    obtain ⟨h4, h5⟩ := gl hi h h2
    exact ⟨h4, fun j hj => h5 j (h3 j hj)⟩
theorem kw {n : Nat} : ∀ {r : List aA} {i : Nat} {o o' : List Int}, i + r.length <= n -> sQ i r o = some o' -> cE n o -> cE n o' /\ ∀ j : Nat, 0 <= gd o j -> 0 <= gd o' j
 | [], i, o, o', _, h, ho => by cases h; exact ⟨ho, fun _ hj => hj⟩
 | x :: r, i, o, o', hn, h, ho => by
   unfold sQ at h
   split at h
   ·cases h
   ·rename_i o1 h1
    simp only [List.length_cons] at hn
    obtain ⟨h2, h3⟩ := gl (by omega) h1 ho
    obtain ⟨h4, h5⟩ := kw (by omega) h h2
    exact ⟨h4, fun j hj => h5 j (h3 j hj)⟩
theorem jT {cs : List aA} {p : Option (List Int)} {o : List Int} (h : ga cs p = some o) : p = some o /\ sj cs o := by
 cases p with
 | none => cases h
 | some o' =>
   by_cases hf : sj cs o'
   ·have : ga cs (some o') = some o' := by unfold ga; exact if_pos hf
    rw [this] at h; cases h; exact ⟨rfl, hf⟩
   ·have : ga cs (some o') = none := by unfold ga; exact if_neg hf
    rw [this] at h; cases h
theorem jR {cs : List aA} {o : List Int} (h : ep cs = some o) : cE cs.length o /\ sj cs o := by
 obtain ⟨h1, h2⟩ := jT h
 exact ⟨(kw (by simp) h1 (gu _)).1, h2⟩
theorem n7 {cs : List aA} {i k : Nat} {is : List ah} {o : List Int} {a : Nat} (hi : i < cs.length) (ho : cE cs.length o) (ha : a < cs.length) (hb : cs[a].block = false) (hp : 0 <= gd o (a : Int)) : fj cs i (is.drop k) o = none := by
 cases h : fj cs i (is.drop k) o with
 | none => rfl
 | some o' =>
   exfalso
   obtain ⟨h1, h2⟩ := jT h
   split at h1
   ·cases h1
   ·rename_i o1 h3
    obtain ⟨h4, h5⟩ := gl hi h3 ho
    obtain ⟨h6, h7⟩ := kw (by simp; omega) h1 h4
    have h8 := h2 a ha
    rw [hb] at h8
    have h9 := h7 a (h5 a hp)
    rw [decide_eq_true h9] at h8
    cases h8
theorem pR {cs : List aA} {o : List Int} {i : Nat} (h : i < cs.length) (hb : cs[i].block ≠ decide (0 <= gd o (i : Int))) : ga cs (some o) = none := by
 unfold ga
 exact if_neg fun k => hb (k i h)
theorem n8 {cs : List aA} {o : List Int} (h : ∀ j, j < cs.length -> ∀ h : j < cs.length, cs[j].block = decide (0 <= gd o (j : Int))) : ga cs (some o) = some o := by
 unfold ga
 exact if_pos fun i hi => h i hi hi
def f5 (o : List Int) : Nat -> Int -> List Int
 | 0, _ => []
 | n + 1, k => if k < 0 then [] else k :: f5 o n (gd o k)
def upN (o : List Int) : Nat -> Int -> Int
 | 0, k => k
 | n + 1, k => if k < 0 then k else upN o n (gd o k)
theorem qQ (o : List Int) (n : Nat) {k : Int} (h : k < 0) : upN o n k = k := by
 cases n with
 | zero => rfl
 | succ n => unfold upN; rw [if_pos h]
theorem mQ {o : List Int} (hinv : cE o.length o) : ∀ (n : Nat) (k : Int) (b : Nat), k = -1 \/ (0 <= k /\ k < o.length /\ o.length <= n + k.toNat) -> (f5 o n k)[b]? = if 0 <= upN o b k then some (upN o b k) else none
 | 0, k, b, h => by
   obtain rfl : k = -1 := by omega
   rw [qQ o b (by omega)]; rfl
 | n + 1, k, b, h => by
   rcases h with rfl | ⟨h0, h1, h2⟩
   ·rw [qQ o b (by omega)]; rfl
   ·unfold f5
    rw [if_neg (by omega)]
    obtain ⟨j, rfl⟩ : ∃ j : Nat, k = j := ⟨k.toNat, by omega⟩
    cases b with
    | zero =>
      show some (j : Int) = _
      unfold upN
      rw [if_pos h0]
    | succ b =>
      show (f5 o n (gd o j))[b]? = _
      have hj := hinv.2 j (by omega)
      rw [mQ hinv n (gd o j) b (by rw [Int.toNat_natCast] at h2; omega)]
      have : upN o (b + 1) j = upN o b (gd o j) := by
        conv => lhs; unfold upN
        rw [if_neg (by omega)]
      rw [this]
theorem ka (o : List Int) : ∀ (n : Nat) (k : Int), (f5 o n k).length <= n
 | 0, _ => Nat.le_refl _
 | n + 1, k => by
   unfold f5
   split
   ·simp
   ·have := ka o n (gd o k); simp; omega
theorem bL {lo : Nat} {cs : List aA} {j : Nat} (h : j < cs.length) : (cs.map (aA.tw lo))[j]? = some [.bool cs[j].block, .int .i64 cs[j].params, .int .i64 cs[j].slots, .sl lo 4 (cs[j].instrs.map (ah.tw lo))] := aM h
theorem iV {lo : Nat} {es : List az} {j : Nat} (h : j < es.length) : (es.map (az.tw lo))[j]? = some [.int .i64 es[j].owner, .bool es[j].class_, .str es[j].selector, .int .i64 es[j].code] := aM h
theorem iS {lo : Nat} {is : List ah} {j : Nat} (h : j < is.length) : (is.map (ah.tw lo))[j]? = some [.int .i64 is[j].op, .int .i64 is[j].a, .int .i64 is[j].b, .str is[j].text] := aM h
def ah.none : ah := ⟨0, 0, 0, ⟨#[]⟩⟩
def ez (cs : List aA) (o : List Int) (k : Nat) (b : Int) : Option aA := if 0 <= b /\ 0 <= upN o b.toNat k then cs[(upN o b.toNat k).toNat]? else none
def ww (cs : List aA) (o : List Int) (k : Nat) (x : ah) : Bool := match ez cs o k x.b with
 | none => false
 | some y => inR x.a (if x.op = 9 then y.params else 0) (IntKind.i64.wrap (y.slots - 1))
def ea (x : ah) : Prop := inR x.op 1 26 = true /\ (aex x.op = true \/ x.a = 0) /\ (aez x.op = true \/ x.b = 0) /\ (aet x.op = true \/ x.text = ⟨#[]⟩)
instance (x : ah) : Decidable (ea x) := by unfold ea; infer_instance
def cJ (cs : List aA) (nc : Nat) (o : List Int) (k : Nat) (own : aA) (x : ah) : Bool :=
 if x.op = 1 then inR x.a 0 999999999
 else if x.op = 2 then nt x.text
 else if x.op = 3 \/ x.op = 13 then bY x.text.data.toList
 else if x.op = 8 \/ x.op = 9 then ww cs o k x
 else if x.op = 10 \/ x.op = 11 then bT x.text.data.toList
 else if x.op = 12 then inR x.a 0 ((nc : Int) - 1)
 else if x.op = 14 then bY x.text.data.toList && inR x.a 0 ((nc : Int) - 1)
 else if x.op = 20 then inR x.a 0 ((own.instrs.length : Int) - 1)
 else if x.op = 21 \/ x.op = 22 then inR x.a 0 ((own.instrs.length : Int) - 1) && inR x.b 0 ((own.instrs.length : Int) - 1)
 else if x.op = 24 then inR x.b 0 ((own.instrs.length : Int) - 1)
 else if x.op = 25 \/ x.op = 26 then inR x.a own.params (own.slots - 1) && inR x.b 0 ((own.instrs.length : Int) - 1)
 else true
def eQ (cs : List aA) (nc : Nat) (o : List Int) (k : Nat) (own : aA) (x : ah) : Bool := decide (ea x) && cJ cs nc o k own x
theorem zC {cs : List aA} {nc : Nat} {o : List Int} {k : Nat} {own : aA} {x : ah} (h : eQ cs nc o k own x = true) : dw own.instrs.length x = true := by
 obtain ⟨op, a, b, t⟩ := x
 unfold eQ at h
 rw [Bool.and_eq_true, decide_eq_true_eq] at h
 obtain ⟨h0, h2⟩ := h
 have h1 := h0.1
 clear h0
 unfold dw
 rw [qV, List.all_map]
 simp only [inR, decide_eq_true_eq] at h1
 unfold cJ at h2
 dsimp only at h2 h1 |-
 have h3 : inR op 1 26 = true := vE h1
 rw [h3, <- abF]
 simp only [cA]
 have hc : op = 1 \/ op = 2 \/ op = 3 \/ op = 4 \/ op = 5 \/ op = 6 \/ op = 7 \/ op = 8 \/ op = 9 \/ op = 10 \/ op = 11 \/ op = 12 \/ op = 13 \/ op = 14 \/ op = 15 \/ op = 16 \/ op = 17 \/ op = 18 \/ op = 19 \/ op = 20 \/ op = 21 \/ op = 22 \/ op = 23 \/ op = 24 \/ op = 25 \/ op = 26 := by omega
 clear h1 h3
 rcases hc with rfl | rfl | rfl | rfl | rfl | rfl | rfl | rfl | rfl | rfl | rfl | rfl | rfl | rfl | rfl | rfl | rfl | rfl | rfl | rfl | rfl | rfl | rfl | rfl | rfl | rfl
 all_goals first
   | rfl
   | (simp at h2; simp [h2, qi]; done)
   | (simp at h2; simp [h2.1, h2.2, qi]; done)
theorem qA {cs : List aA} {nc : Nat} {o : List Int} {k : Nat} {own : aA} (h : ∀ y ∈ own.instrs, eQ cs nc o k own y = true) : jI own.instrs = true := by
 unfold jI
 rw [List.all_eq_true]
 exact fun x hx => zC (h x hx)
def iH (cs : List aA) (i : Nat) (x : ah) : Prop := x.op = 15 -> (0 <= x.a /\ x.a <= (i : Int) - 1) /\ ∃ y, cs[x.a.toNat]? = some y /\ y.block = true
theorem pW {n i : Nat} (hi : i < n) : ∀ {r : List ah} {o o' : List Int}, lL i r o = some o' -> cE n o -> ∀ x ∈ r, x.op = 15 -> (0 <= x.a /\ x.a <= (i : Int) - 1) /\ 0 <= gd o' x.a
 | [], o, o', h, ho, x, hx, _ => by cases hx
 | y :: r, o, o', h, ho, x, hx, h15 => by
   unfold lL at h
   split at h
   ·cases h
   ·rename_i o1 h1
    obtain ⟨h2, h3⟩ := mU hi h1 ho
    rcases List.mem_cons.1 hx with rfl | hx
    ·unfold abk at h1
     rw [if_pos h15] at h1
     split at h1
     ·rename_i h4
      cases h1
      refine ⟨h4.1, ?_⟩
      obtain ⟨a, ha⟩ : ∃ a : Nat, x.a = a := ⟨x.a.toNat, by omega⟩
      have h5 := (gl hi h h2).2 a
      rw [ha] at h5 |-
      refine h5 ?_
      rw [Int.toNat_natCast, kx (by rw [ho.1]; omega)]
      omega
     ·cases h1
    ·exact pW hi h h2 x hx h15
theorem tD {n : Nat} : ∀ {r : List aA} {i : Nat} {o o' : List Int}, i + r.length <= n -> sQ i r o = some o' -> cE n o -> ∀ (j : Nat) (c : aA), r[j]? = some c -> ∀ x ∈ c.instrs, x.op = 15 -> (0 <= x.a /\ x.a <= ((i + j : Nat) : Int) - 1) /\ 0 <= gd o' x.a
 | [], i, o, o', _, h, ho, j, c, hc, x, hx, _ => by simp at hc
 | y :: r, i, o, o', hn, h, ho, j, c, hc, x, hx, h15 => by
   unfold sQ at h
   split at h
   ·cases h
   ·rename_i o1 h1
    simp only [List.length_cons] at hn
    obtain ⟨h2, h3⟩ := gl (by omega) h1 ho
    cases j with
    | zero =>
      simp at hc; subst hc
      obtain ⟨h4, h5⟩ := pW (by omega) h1 ho x hx h15
      refine ⟨h4, ?_⟩
      have h6 := (kw (by omega) h h2).2 x.a.toNat
      rw [Int.toNat_of_nonneg h4.1] at h6
      exact h6 h5
    | succ j =>
      have := tD (by omega) h h2 j c (by simpa using hc) x hx h15
      rw [show i + 1 + j = i + (j + 1) by omega] at this
      exact this
theorem q7 {cs : List aA} {o : List Int} (h : ep cs = some o) {i : Nat} {c : aA} (hc : cs[i]? = some c) : ∀ x ∈ c.instrs, iH cs i x := fun x hx h15 => by
 obtain ⟨h1, h2⟩ := jT h
 have hi : i < cs.length := (List.getElem?_eq_some_iff.1 hc).1
 obtain ⟨h3, h4⟩ := tD (by simp) h1 (gu _) i c (by simpa using hc) x hx h15
 rw [Nat.zero_add] at h3
 refine ⟨h3, ?_⟩
 obtain ⟨a, ha⟩ : ∃ a : Nat, x.a = a := ⟨x.a.toNat, by omega⟩
 rw [ha] at h3 h4 |-
 rw [Int.toNat_natCast]
 have hal : a < cs.length := by omega
 refine ⟨cs[a], List.getElem?_eq_getElem hal, ?_⟩
 rw [h2 a hal]
 exact decide_eq_true h4
def rG (x : aA) : Prop := inR x.slots 0 30 = true /\ inR x.params 0 x.slots = true /\ x.instrs.length <= 900
def fF (cs : List aA) (nc : Nat) (o : List Int) (k : Nat) (x : aA) : Prop := rG x /\ (∀ y ∈ x.instrs, eQ cs nc o k x y = true) /\ (bP x.instrs).isSome = true
open Classical in
noncomputable def ya (cs : List aA) (nc : Nat) (o : List Int) (k : Nat) (x : aA) : Bool := decide (fF cs nc o k x)
def rD (cs : List aA) (nc : Nat) (o : List Int) : Prop := ∀ (k : Nat) (h : k < cs.length), fF cs nc o k cs[k]
def vI (cs : List aA) (nc : Nat) : Prop := ∃ o, ep cs = some o /\ rD cs nc o
def zY (x : aw) : Prop := inR x.main 0 ((x.codes.length : Int) - 1) = true /\ rm x.codes x.main 0
def eK (x : aw) : Prop := bH x.classes = true /\ x.codes.length <= 200 /\ zY x /\ fc x.classes.length x.codes x.entries = true /\ vI x.codes x.classes.length
open Classical in
noncomputable def cX (x : aw) : Bool := decide (eK x)
open Classical in
theorem ql {x : aw} (h : ¬ eK x) : cX x = false := decide_eq_false h
open Classical in
theorem qv {x : aw} (h : eK x) : cX x = true := decide_eq_true h
open Classical in
theorem zN {cs : List aA} {nc : Nat} {o : List Int} {k : Nat} {x : aA} (h : ¬ fF cs nc o k x) : ya cs nc o k x = false := decide_eq_false h
open Classical in
theorem aav {cs : List aA} {nc : Nat} {o : List Int} {k : Nat} {x : aA} (h : fF cs nc o k x) : ya cs nc o k x = true := decide_eq_true h
theorem eY {o : List Int} {j : Nat} (h : j < o.length) : (aS o)[j]? = some [.int .i64 (gd o (j : Int))] := by
 simp [aS, gd, h]
theorem i6 (o : List Int) : ∀ (n : Nat) (k : Int), upN o (n + 1) k = if upN o n k < 0 then upN o n k else gd o (upN o n k)
 | 0, k => rfl
 | n + 1, k => by
   by_cases h : k < 0
   ·rw [qQ o _ h, qQ o _ h, if_pos h]
   ·have h1 : upN o (n + 1 + 1) k = upN o (n + 1) (gd o k) := by conv => lhs; unfold upN
                                                                 rw [if_neg h]
    have h2 : upN o (n + 1) k = upN o n (gd o k) := by conv => lhs; unfold upN
                                                       rw [if_neg h]
    rw [h1, h2]
    exact i6 o n (gd o k)
theorem uj {o : List Int} (hinv : cE o.length o) : ∀ (n : Nat) (k : Int), k = -1 \/ (0 <= k /\ k < o.length) -> upN o n k = -1 \/ (0 <= upN o n k /\ upN o n k < o.length)
 | 0, k, h => h
 | n + 1, k, h => by
   rw [i6]
   have := uj hinv n k h
   split
   ·exact this
   ·obtain ⟨j, hj⟩ : ∃ j : Nat, upN o n k = j := ⟨(upN o n k).toNat, by omega⟩
    rw [hj] at this |-
    have := hinv.2 j (by omega)
    omega
theorem adg {o : List Int} (hinv : cE o.length o) {k : Int} (hk : 0 <= k /\ k < o.length) : ∀ n : Nat, 0 <= upN o n k -> (n : Int) <= upN o n k
 | 0, h => h
 | n + 1, h => by
   rw [i6] at h |-
   have hin := uj hinv n k (.inr hk)
   split
   ·rename_i h1; rw [if_pos h1] at h; omega
   ·rename_i h1
    rw [if_neg h1] at h
    have ih := adg hinv hk n (by omega)
    obtain ⟨j, hj⟩ : ∃ j : Nat, upN o n k = j := ⟨(upN o n k).toNat, by omega⟩
    rw [hj] at h hin ih |-
    have := hinv.2 j (by omega)
    omega
theorem sA {o : List Int} {k : Int} {n : Nat} (h : upN o n k < 0) : ∀ m, n <= m -> upN o m k = upN o n k
 | 0, hm => by obtain rfl : n = 0 := by omega
               rfl
 | m + 1, hm => by
   by_cases he : n = m + 1
   ·rw [he]
   ·have := sA h m (by omega)
    rw [i6, this, if_pos h]
theorem sS {cs : List aA} {o : List Int} {k : Nat} {b : Int} (h : b < 0) : ez cs o k b = none := by
 unfold ez
 exact if_neg (by omega)
theorem ul {cs : List aA} {o : List Int} {k n : Nat} {b : Int} (h : upN o n k < 0) (hn : (n : Int) <= b) : ez cs o k b = none := by
 unfold ez
 rw [sA h b.toNat (by omega)]
 exact if_neg (by omega)
theorem wL {cs : List aA} {o : List Int} {k j : Nat} {b : Int} {y : aA} (hb : 0 <= b) (h : upN o b.toNat k = j) (hj : cs[j]? = some y) : ez cs o k b = some y := by
 unfold ez
 rw [h, if_pos ⟨hb, by omega⟩, Int.toNat_natCast, hj]
theorem yN {cs : List aA} {o : List Int} {k : Nat} (hinv : cE cs.length o) (hk : k < cs.length) {b : Int} {L : List Int} (hL : L = (f5 o cs.length k).reverse) (h : 0 <= b /\ b <= (L.length : Int) - 1) :
   ∃ (q v : Nat) (y : aA), (L.length : Int) - 1 - b = q /\ (aS L)[q]? = some [.int .i64 (v : Int)] /\ cs[v]? = some y /\ ez cs o k b = some y := by
 obtain ⟨c, rfl⟩ : ∃ c : Nat, b = c := ⟨b.toNat, by omega⟩
 have hl : o.length = cs.length := hinv.1
 have hinv' : cE o.length o := by rw [hl]; exact hinv
 have hcl : L.length = (f5 o cs.length k).length := by rw [hL, List.length_reverse]
 have hcu := mQ hinv' cs.length (k : Int) c (.inr ⟨by omega, by omega, by rw [hl]; omega⟩)
 have hc : c < (f5 o cs.length k).length := by omega
 rw [List.getElem?_eq_getElem hc] at hcu
 split at hcu
 ·rename_i h0
  have hin := uj hinv' c k (.inr ⟨by omega, by omega⟩)
  obtain ⟨v, hv⟩ : ∃ v : Nat, upN o c k = v := ⟨(upN o c k).toNat, by omega⟩
  rw [hv] at hin hcu
  have hvl : v < cs.length := by omega
  refine ⟨L.length - 1 - c, v, cs[v], by omega, ?_, List.getElem?_eq_getElem hvl, wL (by omega) (by rw [Int.toNat_natCast]; exact hv) (List.getElem?_eq_getElem hvl)⟩
  have hg : L[L.length - 1 - c]? = some (v : Int) := by
    rw [hL, List.getElem?_reverse (by rw [List.length_reverse]; omega), List.length_reverse]
    rw [show (f5 o cs.length k).length - 1 - ((f5 o cs.length k).length - 1 - c) = c by omega, List.getElem?_eq_getElem hc]
    exact hcu
  simp only [aS, List.getElem?_map, hg]; rfl
 ·cases hcu
theorem oT {cs : List aA} {o : List Int} {k : Nat} (hinv : cE cs.length o) (hk : k < cs.length) {b : Int} {L : List Int} (hL : L = (f5 o cs.length k).reverse) (h : ¬ (0 <= b /\ b <= (L.length : Int) - 1)) : ez cs o k b = none := by
 by_cases h0 : b < 0
 ·exact sS h0
 obtain ⟨c, rfl⟩ : ∃ c : Nat, b = c := ⟨b.toNat, by omega⟩
 have hl : o.length = cs.length := hinv.1
 have hinv' : cE o.length o := by rw [hl]; exact hinv
 have hcl : L.length = (f5 o cs.length k).length := by rw [hL, List.length_reverse]
 have hcu := mQ hinv' cs.length (k : Int) c (.inr ⟨by omega, by omega, by rw [hl]; omega⟩)
 rw [List.getElem?_eq_none (by omega)] at hcu
 split at hcu
 ·cases hcu
 ·rename_i h1
  unfold ez
  rw [Int.toNat_natCast]
  exact if_neg fun h => h1 h.2
def GL (w : World) : Prop := qs w
theorem dA : aB GL := ⟨fun _ _ h hb => qs.below h hb⟩
theorem afv (s : ByteArray) (hs : s.size <= 1048576) : Ct Tryz.prog GL 242 [.str s] (fun _ => .int .i64 (bQ s.data.toList)) := qe fun w _ => lh s w hs
theorem afy (s : ByteArray) (hs : s.size <= 1048576) : Ct Tryz.prog GL 182 [.str s] (fun _ => .bool (bY s.data.toList)) := gp fun w _ => dY s w hs
theorem afH (s : ByteArray) (hs : s.size <= 1048576) : Ct Tryz.prog GL 195 [.str s] (fun _ => .int .i64 (bQ s.data.toList)) := qe fun w hG => rH s w hs hG
theorem afW (s : ByteArray) (hs : s.size <= 1048576) : Ct Tryz.prog GL 194 [.str s] (fun _ => .bool (bY s.data.toList)) := gp fun w hG => o5 s w hs hG
theorem aad (r : Option (List Int)) : ∀ y : Nat × Nat, True -> (∀ s b o, (s, b, o) ∈ dO r y -> kK (dO r y) o) /\ jk (dO r y) (dR r y) := fun y _ =>
 ⟨fun s b o h => by
   simp only [dO, List.mem_singleton, Prod.mk.injEq] at h
   obtain ⟨_, _, rfl⟩ := h
   exact rJ (kU _), .tup _ fun t ht => by
   simp only [List.mem_cons, List.not_mem_nil, or_false] at ht
   rcases ht with rfl | rfl
   ·exact .ms _ _ _ _ _ _ List.mem_cons_self
   ·exact .flat _ rfl⟩
theorem ki (lo : Nat) (is : List ah) : dW is = is.map (ah.tw lo) := rfl
noncomputable def ac2 (cs : List aA) (K : Nat) : TV := .tup [.sl K 1 (aS ((ep cs).getD [])), .bool (ep cs).isSome]
theorem gH {B L : Nat} {objs : aH} {r : Option (List Int)} (h : r = none) : Fin B objs L .nils (.sl L 1 (aS (r.getD []))) := by subst h; exact .nils 1
theorem eD {B L : Nat} {objs : aH} {r : Option (List Int)} (h : r = none) : Fin B objs L (.bool false) (.bool r.isSome) := by subst h; exact .bool false
theorem xT {B L s b n : Nat} {objs : aH} {r : Option (List Int)} {o : List Int} (h : r = some o) (hn : o.length = n) (hm : (s, b, bj.row 1 (aS o)) ∈ objs) : Fin B objs L (.ms s b 0 n) (.sl L 1 (aS (r.getD []))) := by
 subst h; subst hn
 have hl := ao o
 exact Fin.msFlat hm (by omega) (by rw [List.drop_zero, List.take_of_length_le (by omega)]; rfl) (kU o)
theorem qu {B L : Nat} {objs : aH} {r : Option (List Int)} {o : List Int} (h : r = some o) : Fin B objs L (.bool true) (.bool r.isSome) := by subst h; exact .bool true
section
variable {G : World -> Prop}
theorem n9 (hst : aB G) (f lo : Nat) (ccl cen : TV) (cs : List aA) (mn : Int) (hcs : cs.length <= 1048576 /\ ∀ y ∈ cs, aA.small 1048576 y) :
   Ct Tryz.prog G 102 [.cp f [ccl, .sl lo 4 (cs.map (aA.tw lo)), cen, .int .i64 mn]] (ac2 cs) := by
 refine am Tryz.func102 rfl Tryz.ntmps102 rfl rfl fun w0 _ hG => ?_
 have hl2 := aA.len lo cs
 have hcl := hcs.1
 have h0 : (List.replicate cs.length [TV.int .i64 0]) = aS (iP cs.length 0) := by simp [iP, aS]
 repeat' (first | refine W_ ?_ | (refine f9 ?_; intro ss bb))
 generalize ss = sd; generalize bb = bd
 apply ak (X := Nat) [0, 4] (fun i => [(5, .int .i64 (i : Int))]) (fun i => [(sd, bd, .row 1 (aS (iP cs.length i)))]) (fun i => i <= cs.length) (fun i => cs.length - i) 0 (Nat.zero_le _)
 exact kp_; exact nw_
 ·rw [<- h0]; exact .refl _
 intro i hi
 try dsimp only at hi |-
 by_cases hlt : i < cs.length
 ·obtain ⟨hrow, hset⟩ := pH hlt
  repeat' (first | refine W_ ?_ | refine bE ?_)
  rw [hset]
  refine ag (i + 1) (by omega) (by omega) (.of _ nw_ od_ (.refl _))
 ·obtain rfl : i = cs.length := by omega
  clear hlt hi
  have hfull : iP cs.length cs.length = List.replicate cs.length (-1) := by simp [iP]
  rw [hfull]
  have hst0 : fy cs 0 (List.replicate cs.length (-1)) = ep cs := rfl
  have hin0 := gu cs.length
  unfold ac2
  generalize ep cs = R at hst0
  generalize List.replicate cs.length (-1 : Int) = o0 at hst0 hin0
  repeat' refine W_ ?_
  apply ak (X := Nat × List Int) [0, 4] (fun x => [(6, .int .i64 (x.1 : Int))]) (fun x => [(sd, bd, .row 1 (aS x.2))]) (fun x => x.1 <= cs.length /\ cE cs.length x.2 /\ fy cs x.1 x.2 = R) (fun x => cs.length - x.1) (0, o0) ⟨Nat.zero_le _, hin0, hst0⟩
  exact kp_; exact nw_
  ·exact .refl _
  clear hin0 hst0
  rintro ⟨i, o⟩ ⟨hi, hin, hR⟩
  dsimp only at hi hin hR |-
  have hol : (aS o).length = cs.length := by rw [ao]; exact hin.1
  by_cases hlt : i < cs.length
  ·have hra := bL (lo := lo) hlt
   have hsm := hcs.2 _ (List.getElem_mem hlt)
   rw [lW hlt] at hR
   generalize cs[i] = c at hra hsm hR
   obtain ⟨cb, cp, csl, is⟩ := c
   dsimp only at hra hR
   have hil := ah.len lo is
   have hisl : is.length <= 1048576 := hsm.1
   repeat' refine W_ ?_
   apply ak (X := Nat × List Int) [0, 4, 6] (fun x => [(7, .int .i64 (x.1 : Int))]) (fun x => [(sd, bd, .row 1 (aS x.2))]) (fun x => x.1 <= is.length /\ cE cs.length x.2 /\ fj cs i (is.drop x.1) x.2 = R) (fun x => is.length - x.1) (0, o) ⟨Nat.zero_le _, hin, hR⟩
   exact kp_; exact nw_
   ·exact .refl _
   clear hin hR hol
   rintro ⟨k, o⟩ ⟨hk, hin, hR⟩
   dsimp only at hk hin hR |-
   have hol : (aS o).length = cs.length := by rw [ao]; exact hin.1
   by_cases hlk : k < is.length
   ·have hrk := iS (lo := lo) hlk
    rw [lY hlk] at hR
    generalize is[k] = x at hrk hR
    obtain ⟨op, a, b, t⟩ := x
    unfold abk at hR
    dsimp only at hrk hR
    by_cases h15 : op = 15
    ·rw [if_pos h15] at hR
     have h15' : ¬ op ≠ 15 := fun h => h h15
     by_cases hin2 : 0 <= a /\ a <= (i : Int) - 1
     ·have cin := a7 (G := G) a 0 ((i - 1 : Nat) : Int)
      rw [vE (by omega)] at cin
      obtain ⟨q, rfl⟩ : ∃ q : Nat, a = q := ⟨a.toNat, by omega⟩
      have hql : q < o.length := by rw [hin.1]; omega
      have hrq := eY hql
      have hqc : q < cs.length := by omega
      by_cases hg : 0 <= gd o (q : Int)
      ·rw [if_neg fun h => h.2 hg] at hR
       repeat' (first | refine W_ ?_ | (refine aj ?_; intro ss bb) | refine ac ?_ | refine ab hG hst (cin) ?_)
       refine cZ x_ rfl (.tmp _ _ rfl) (.tmp _ _ rfl) (fun _ => ?_) (fun _ => ?_)
       ·exact gH hR.symm
       ·exact eD hR.symm
      ·rw [if_pos ⟨hin2, hg⟩, Int.toNat_natCast] at hR
       dsimp only at hR
       have hset := rU o q (i : Int)
       have hin3 := (mU (n := cs.length) (i := i) (x := ⟨15, q, b, t⟩) (o := o) (o' := o.set q (i : Int)) hlt (by unfold abk; rw [if_pos rfl, if_pos ⟨hin2, hg⟩, Int.toNat_natCast]) hin).1
       repeat' (first | refine W_ ?_ | (refine aj ?_; intro ss bb) | refine ac ?_ | refine ab hG hst (cin) ?_ | refine bE ?_)
       rw [hset]
       refine ag (k + 1, o.set q (i : Int)) ⟨by dsimp only; omega, hin3, hR⟩ (by dsimp only; omega) (.of _ nw_ od_ pk_)
     ·have cin := a7 (G := G) a 0 ((i : Int) - 1)
      have cin' := a7 (G := G) a 0 ((i - 1 : Nat) : Int)
      rw [ab3 hin2] at cin
      rw [if_neg fun h => hin2 h.1] at hR
      repeat' (first | refine W_ ?_ | (refine aj ?_; intro ss bb) | refine ac ?_ | refine ab hG hst (cin) ?_)
      refine cZ x_ rfl (.tmp _ _ rfl) (.tmp _ _ rfl) (fun _ => ?_) (fun _ => ?_)
      ·exact gH hR.symm
      ·exact eD hR.symm
    ·rw [if_neg h15] at hR
     dsimp only at hR
     repeat' (first | refine W_ ?_ | (refine aj ?_; intro ss bb) | refine ac ?_)
     refine ag (k + 1, o) ⟨by dsimp only; omega, hin, hR⟩ (by dsimp only; omega) (.of _ nw_ od_ pk_)
   ·rw [mW hlk] at hR
    repeat' refine W_ ?_
    refine ag (i + 1, o) ⟨by dsimp only; omega, hin, hR⟩ (by dsimp only; omega) (.of _ nw_ od_ pk_)
  ·rw [oF hlt] at hR
   repeat' refine W_ ?_
   apply ak (X := Nat) [0, 4] (fun j => [(9, .int .i64 (j : Int))]) (fun _ => [(sd, bd, .row 1 (aS o))]) (fun j => j <= cs.length /\ ∀ q, q < j -> ∀ h : q < cs.length, cs[q].block = decide (0 <= gd o (q : Int))) (fun j => cs.length - j) 0 ⟨Nat.zero_le _, by omega⟩
   exact kp_; exact nw_
   ·exact .refl _
   rintro j ⟨hj, hja⟩
   try dsimp only
   by_cases hlj : j < cs.length
   ·have hra := bL (lo := lo) hlj
    have hrj := eY (o := o) (j := j) (by rw [hin.1]; exact hlj)
    have hbad := pR (o := o) hlj
    have hnx : cs[j].block = decide (0 <= gd o (j : Int)) -> ∀ q, q < j + 1 -> ∀ h : q < cs.length, cs[q].block = decide (0 <= gd o (q : Int)) := fun ho => bS hja fun _ => ho
    generalize cs[j] = c at hra hbad hnx
    obtain ⟨cb, cp, csl, is⟩ := c
    dsimp only at hra hbad hnx
    generalize gd o (j : Int) = v at hrj hbad hnx
    by_cases hb : cb = decide (0 <= v)
    ·repeat' (first | refine V_ ?_ | refine c_ (fun hc => ?_) (fun hc => ?_))
     all_goals first
       | exact ag (j + 1) ⟨by omega, hnx hb⟩ (by omega) (.of _ nw_ od_ pk_)
       | (exfalso; simp_all; done)
    ·rw [hbad hb] at hR
     repeat' (first | refine V_ ?_ | refine c_ (fun hc => ?_) (fun hc => ?_))
     all_goals first
       | (exfalso; simp_all; done)
       | (refine cZ x_ rfl (.tmp _ _ rfl) (.tmp _ _ rfl) (fun _ => ?_) (fun _ => ?_)
          ·exact gH hR.symm
          ·exact eD hR.symm)
   ·rw [n8 fun q hq => hja q (by omega)] at hR
    repeat' refine W_ ?_
    refine cZ x_ rfl (.tmp _ _ rfl) (.tmp _ _ rfl) (fun _ => ?_) (fun _ => ?_)
    ·exact xT hR.symm hin.1 List.mem_cons_self
    ·exact qu hR.symm
end
end Go.Proofs.YtofnnnpahglfdaaGreatDoor
