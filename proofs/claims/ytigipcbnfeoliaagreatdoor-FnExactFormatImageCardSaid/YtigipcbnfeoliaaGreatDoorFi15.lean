/- Part 15 of the proof: the texts SdF, IvQ, IvR, IvT, IvJ. -/
import Derived.Test.YtigipcbnfeoliaaGreatDoorFi3
import Derived.Test.YtigipcbnfeoliaaGreatDoorFi11
import Derived.Test.YtigipcbnfeoliaaGreatDoorFi12
import Derived.Test.YtigipcbnfeoliaaGreatDoorFi4
set_option linter.all false
set_option maxHeartbeats 4000000
set_option maxRecDepth 20000
namespace Go.Proofs.YtigipcbnfeoliaaGreatDoor
open Go Go.RowKit
theorem qH {op : Int} {o : Nat} (h : o ∈ cF op) : o = 1 \/ o = 2 := by
 unfold cF at h
 repeat' split at h
 all_goals first
   | (simp at h; done)
   | (simp at h; omega)
   | skip
theorem uw (op : Int) : (cF op).length <= 2 := by
 unfold cF
 repeat' split
 all_goals simp
theorem n8 (op : Int) (s b : Nat) : (wP op s b).length = (cF op).length := by simp [wP]
theorem xt {op : Int} {s b q : Nat} (h : q < (cF op).length) : (wP op s b)[q]? = some [.mp s b (cF op)[q]] := by simp [wP, h]
def qK (a b : Int) (o : Nat) : Int := if o = 1 then a else b
theorem sh (op a b : Int) (t : ByteArray) : ag.labs ⟨op, a, b, t⟩ = (cF op).map (qK a b) := adP op a b t
theorem wU {α : Type} {p : α -> Bool} {l : List α} {q : Nat} (h : q < l.length) (ha : (l.take q).all p = true) : (l.take (q + 1)).all p = p l[q] := by
 rw [List.take_add_one, List.all_append, ha, List.getElem?_eq_getElem h]; simp
theorem aaC {α : Type} {p : α -> Bool} {l : List α} {q : Nat} (h : q < l.length) (hb : p l[q] = false) : l.all p = false := by
 rw [List.all_eq_false]; exact ⟨_, List.getElem_mem h, by rw [hb]; simp⟩
theorem yK (n : Nat) (p d : Int) (r : List (Int × Int)) (ds : List Int) (q : List Nat) : gz n ((p, d) :: r) (ds, q) = if uP n ds p d then none else if gd ds p < 0 then gz n r (ds.set p.toNat d, q ++ [p.toNat]) else gz n r (ds, q) := rfl
def zm (op : Int) (t : ByteArray) : Bool := !inR op 1 26 || ((decide (op = 13) || decide (op = 14)) && decide (bW t.data.toList < 0))
theorem uM (n : Nat) (op a b : Int) (t : ByteArray) : dD n ⟨op, a, b, t⟩ = (!zm op t && ((cF op).all fun o => inR (qK a b o) 0 ((n : Int) - 1))) := by
 unfold dD zm
 rw [sh, List.all_map]
 have h1 : decide (0 <= bW t.data.toList) = !decide (bW t.data.toList < 0) := by
   rw [<- decide_not]; exact decide_eq_decide.2 (by omega)
 rw [h1]
 cases inR op 1 26 <;> cases decide (op = 13) <;> cases decide (op = 14) <;> cases decide (bW t.data.toList < 0) <;> rfl
theorem jM {G : World -> Prop} (hst : aC G) (hca : ∀ s : ByteArray, s.size <= 1048576 -> Ct Tryz.prog G 219 [.str s] (fun _ => .int .i64 (bW s.data.toList)))
   (l2 : Nat) (bl : Bool) (pr sl : Int) (is : List ag) (hn : is.length <= 1048576) (ht : ∀ i ∈ is, i.text.size <= 1048576) :
   CtM Tryz.prog G 220 [.agg [.bool bl, .int .i64 pr, .int .i64 sl, .sl l2 4 (d8 is)]] [] (fun _ : Nat × Nat => True) (dO (bT is)) (dR (bT is)) := by
 refine aB Tryz.func220 rfl Tryz.ntmps220 rfl rfl rfl fun w0 R gs objsR hG hR => ?_
 obtain rfl := hR.inv0
 clear hR
 have hlen := kZ is
 by_cases hz : is.length = 0
 ·have hd : bT is = none := by unfold bT; rw [if_pos hz]
  rw [hd]
  repeat' (first | refine W_ ?_ | refine aJ ?_)
  refine ek 2 1 (by omega) rfl fun ss => dx x_ rfl (ss, 0) trivial rfl (.cons _ _ _ _ (.nil R)) pk_ (.tmp _ _ rfl) (.tmp _ _ rfl) rfl
 have hnz : 0 < is.length := by omega
 have hc1 : ((is.length - 1 : Nat) : Int) = (is.length : Int) - 1 := by omega
 have hnone : j7 is = false -> bT is = none := fun h => by unfold bT; rw [h]; simp
 repeat' (first | refine W_ ?_ | refine aJ ?_)
 apply ai (X := Nat) [1, 4, 26, 1000000] (fun i => [(27, .int .i64 (i : Int))]) (fun _ => R) (fun i => i <= is.length /\ (is.take i).all (dD is.length) = true) (fun i => is.length - i) 0 ⟨Nat.zero_le _, rfl⟩
 exact kp_; exact nw_
 ·exact .refl _
 rintro i ⟨hi, hall⟩
 try dsimp only
 by_cases hlt : i < is.length
 ·have hii : (d8 is)[i]? = some (is[i]).tv := by simp only [d8, List.getElem?_map]; rw [List.getElem?_eq_getElem hlt]; rfl
  have htk := wU hlt hall
  have hbad := fun h => hnone (aaC (p := dD is.length) hlt h)
  have hti := ht _ (List.getElem_mem hlt)
  generalize is[i] = ii at hii hti htk hbad
  obtain ⟨op, a, b, t⟩ := ii
  rw [uM] at htk hbad
  replace hii : (d8 is)[i]? = some [.int .i64 op, .int .i64 a, .int .i64 b, .str t] := hii
  replace hti : t.size <= 1048576 := hti
  repeat' (first | refine H_ 8 ?_ | (refine ak ?_; intro ss bb) | refine ae ?_)
  refine ⟨dv ?_⟩
  generalize ss = s6; generalize bb = b6
  apply fK (X := Unit) [1, 4, 6, 26, 27, 1000000] (fun _ => [(54, .bool (zm op t))]) (fun _ => (s6, b6, .box [.int .i64 op, .int .i64 a, .int .i64 b, .str t]) :: R) (fun _ => True)
  case hk => (repeat (first | exact jB.nil | (apply jB.cons; rfl)))
  ·clear hbad htk hall hii ht
   repeat' (first | refine W_ ?_ | refine ac hG hst (aK _ _ _) ?_ | refine ac hG hst (hca _ hti) ?_ | refine g_ (fun hg => ?_) (fun hg => ?_))
   all_goals
     refine ee () trivial (.of _ (bX.envCons (jZ rfl ?_) bX.envNil) od_ pk_)
     first
       | (simp [zm, *]; done)
       | (simp [zm, *]; simp [inR]; done)
  intro _ _
  by_cases hb1 : zm op t = true
  ·have hd := hbad (by rw [hb1]; rfl)
   rw [hb1, hd]
   repeat' (first | with_reducible refine cW rfl ?_ | ((with_reducible first | apply wT | apply nw); rfl; rfl) | with_reducible refine dv ?_ | with_reducible refine cn ?_ | with_reducible refine fR ?_ | with_reducible refine dU ?_ | with_reducible refine cI ?_ | with_reducible refine dZ ?_ | with_reducible refine dY ?_ | with_reducible refine fW ?_ | with_reducible refine bD ?_ | with_reducible refine bp rfl ?_ | with_reducible refine bC ?_ | with_reducible refine bK ?_ | with_reducible refine bA ?_ | with_reducible refine da ?_ | refine cr rfl rr_ ?_ | refine cm rfl rr_ ?_ | (refine bV rfl rr_ dd_ ?_) | (refine bU rfl rr_ dd_ ?_) | (refine eh rfl rr_ (fun hc => ?_) (fun hc => ?_)) | (refine df rfl rr_ (fun hc => ?_) (fun hc => ?_)))
   refine ek 2 1 (by omega) rfl fun ss => dx x_ rfl (ss, 0) trivial rfl (.cons _ _ _ _ (.nil R)) pk_ (.tmp _ _ rfl) (.tmp _ _ rfl) rfl
  rw [Bool.not_eq_true] at hb1
  rw [hb1] at htk hbad
  simp only [Bool.not_false, Bool.true_and] at htk hbad
  rw [hb1]
  have hlr := n8 op s6 b6
  have hol := uw op
  repeat' (first | refine W_ ?_ | ((with_reducible apply aE); rfl; kernel_rfl; (repeat (first | exact ay.nil | ((with_reducible apply ay.cons); rfl))); exact hG; exact od s6 b6 op a b t; exact .cons _ _ _ _ (.nil _); intro y _; obtain ⟨sl5, bl5⟩ := y; refine abn ?_))
  apply ai (X := Nat) [1, 4, 26, 27, 55, 56, 1000000] (fun q => [(57, .int .i64 (q : Int))]) (fun _ => (sl5, bl5, .row 1 (wP op s6 b6)) :: (s6, b6, .box [.int .i64 op, .int .i64 a, .int .i64 b, .str t]) :: R) (fun q => q <= (cF op).length /\ ((cF op).take q).all (fun o => inR (qK a b o) 0 ((is.length : Int) - 1)) = true) (fun q => (cF op).length - q) 0 ⟨Nat.zero_le _, rfl⟩
  exact kp_; exact nw_
  ·exact .refl _
  rintro q ⟨hq, hqa⟩
  try dsimp only
  by_cases hql : q < (cF op).length
  ·have hrow := xt (s := s6) (b := b6) hql
   have hqk := wU hql hqa
   have hqb := fun h => hbad (aaC (p := fun o => inR (qK a b o) 0 ((is.length : Int) - 1)) hql h)
   have hmem := qH (List.getElem_mem hql)
   generalize (cF op)[q] = o at hrow hqk hqb hmem
   by_cases hin : inR (qK a b o) 0 ((is.length : Int) - 1) = true
   ·have hw : ∀ G, Ct Tryz.prog G 47 [.int .i64 (qK a b o), .int .i64 0, .int .i64 ((is.length - 1 : Nat) : Int)] (fun _ => .bool true) := fun G => by rw [hc1, <- hin]; exact aK _ _ _
    rcases hmem with rfl | rfl
    all_goals
      first | rw [show qK a b 1 = a from rfl] at hw | rw [show qK a b 2 = b from rfl] at hw
      repeat' (first | refine W_ ?_ | refine ac hG hst (hw _) ?_)
      exact ah (q + 1) ⟨by omega, by rw [hqk, hin]⟩ (by omega) (.of _ nw_ od_ pk_)
   ·rw [Bool.not_eq_true] at hin
    have hd := hqb hin
    rw [hd]
    have hw : ∀ G, Ct Tryz.prog G 47 [.int .i64 (qK a b o), .int .i64 0, .int .i64 ((is.length - 1 : Nat) : Int)] (fun _ => .bool false) := fun G => by rw [hc1, <- hin]; exact aK _ _ _
    rcases hmem with rfl | rfl
    all_goals
      first | rw [show qK a b 1 = a from rfl] at hw | rw [show qK a b 2 = b from rfl] at hw
      repeat' (first | refine W_ ?_ | refine ac hG hst (hw _) ?_)
      refine ek 2 1 (by omega) rfl fun ss => dx x_ rfl (ss, 0) trivial rfl (.cons _ _ _ _ (.nil R)) pk_ (.tmp _ _ rfl) (.tmp _ _ rfl) rfl
  ·rw [List.take_of_length_le (by omega)] at hqa
   rw [hqa] at htk
   repeat' refine W_ ?_
   exact ah (i + 1) ⟨by omega, htk⟩ (by omega) (.of _ nw_ od_ pk_)
 ·rw [List.take_of_length_le (by omega)] at hall
  have hd : bT is = sH is (lF is) is.length (0 :: List.replicate (is.length - 1) (-1)) [0] := by
    unfold bT; rw [if_neg hz, if_pos (show j7 is = true from hall)]
  have hn1 : 1 <= is.length := hnz
  have hset : (aR (List.replicate is.length (-1))).set 0 [.int .i64 0] = aR (0 :: List.replicate (is.length - 1) (-1)) := by
    have e : is.length = (is.length - 1) + 1 := by omega
    rw [e, List.replicate_succ]; rfl
  have hrow0 : (aR (List.replicate is.length (-1)))[0]? = some [.int .i64 (-1)] := by
    have e : is.length = (is.length - 1) + 1 := by omega
    rw [e, List.replicate_succ]; rfl
  have hrep := fun lo => tP (G := G) lo is.length hn1 hn
  repeat' (first | refine H_ 19 ?_ | refine ch ?_ | refine bJ ?_ | ((with_reducible apply aE); rfl; kernel_rfl; (repeat (first | exact ay.nil | ((with_reducible apply ay.cons); rfl))); exact hG; exact hrep _; exact .nil _; intro y _; obtain ⟨ss, bb⟩ := y; refine bF ?_))
  refine ⟨?_⟩
  generalize ss = sd; generalize bb = bd
  repeat' (first | refine W_ ?_ | (refine la ?_; intro ss bb))
  generalize ss = st; generalize bb = bt
  rw [hset]
  have hpo : j7 is = true := hall
  clear hset hrow0 hrep hlt hnone hall hi
  apply ai (X := List Int × List Nat × List (List TV) × Nat × Nat) [1, 4, 9, 1000000] (fun x => [(10, .ms st x.2.2.2.1 x.2.2.1.length x.2.1.length)]) (fun x => (st, x.2.2.2.1, .row 1 (x.2.2.1 ++ aR (nts x.2.1))) :: (sd, bd, .row 1 (aR x.1)) :: R)
    (fun x => x.2.2.2.2 <= is.length /\ DSt is.length x.1 x.2.1 x.2.2.2.2 /\ sH is (lF is) x.2.2.2.2 x.1 x.2.1 = bT is) (fun x => x.2.2.2.2) (0 :: List.replicate (is.length - 1) (-1), [0], [], bt, is.length) ⟨Nat.le_refl _, nB hn1, hd.symm⟩
  exact kp_; exact nw_
  ·exact .refl _
  rintro ⟨ds, q, pre, bt, f⟩ ⟨hf, hD, hfl⟩
  dsimp only at hf hD hfl |-
  cases q with
  | nil =>
    have hdl := hD.len
    have hd' : bT is = some ds := by rw [<- hfl]; simp [sH]
    have h00 : ([] : List Nat).length = 0 := rfl
    rw [hd']
    repeat' refine W_ ?_
    refine dx x_ rfl (sd, bd) trivial rfl (.cons _ _ _ _ (.nil R)) pk_ (.tmp _ _ rfl) (.tmp _ _ rfl) (by simp [dR, hdl])
  | cons p q =>
  obtain ⟨j, rfl, hD', hpn, hg0⟩ := hD.pop
  clear hD
  have hlc : (p :: q).length = q.length + 1 := rfl
  rw [iL _ _ _ _ _ hpn] at hfl
  have hrange := hD'.inv.gd (p : Nat)
  have hdl := hD'.len
  have hmu := hD'.mu
  have hgp : (pre ++ aR (nts (p :: q)))[pre.length + 0]? = some [.int .i64 (p : Int)] := by
    rw [Nat.add_zero, List.getElem?_append_right (Nat.le_refl _), Nat.sub_self]; rfl
  have hdi : (aR ds)[p]? = some [.int .i64 (gd ds (p : Nat))] := by
    have h9 := qV (ds := ds) (p := p) (by omega)
    simp only [aR, List.getElem?_map]
    rw [List.getElem?_eq_getElem (by omega), h9]; rfl
  have hii : (d8 is)[p]? = some (is[p]).tv := by simp only [d8, List.getElem?_map]; rw [List.getElem?_eq_getElem hpn]; rfl
  have hpi : dD is.length is[p] = true := List.all_eq_true.1 hpo _ (List.getElem_mem _)
  have hti := ht _ (List.getElem_mem hpn)
  generalize is[p] = ii at hfl hii hpi hti
  obtain ⟨op, a, b, t⟩ := ii
  replace hti : t.size <= 1048576 := hti
  have her := iW ⟨op, a, b, t⟩
  have hop : inR op 1 26 = true := by simp only [dD, Bool.and_eq_true] at hpi; exact hpi.1.1
  have hef := tF hst hca op a b t hti hop
  have hnx := adM hst hca op a b t p (gd ds p) hti hop (by omega) ⟨hg0, hrange.2⟩
  replace hii : (d8 is)[p]? = some [.int .i64 op, .int .i64 a, .int .i64 b, .str t] := hii
  have hstep : lF is ⟨op, a, b, t⟩ p ds = if gd ds p < (ag.eff ⟨op, a, b, t⟩).1 then none else if (ag.labs ⟨op, a, b, t⟩).any (gN is p op) then none else gz is.length (ag.nexts ⟨op, a, b, t⟩ p (gd ds p)) (ds, []) := rfl
  rw [hstep, sh, List.any_map] at hfl
  clear hstep
  have hpi0 := hpi
  rw [uM, Bool.and_eq_true] at hpi
  have hlb := hpi.2
  clear hpi
  have hn0 : ¬ gd ds p < (ag.eff ⟨op, a, b, t⟩).1 -> ∀ x ∈ ag.nexts ⟨op, a, b, t⟩ p (gd ds p), 0 <= x.2 := fun h => gm ⟨op, a, b, t⟩ p (gd ds p) hg0 h fun h14 => by
    have := hpi0
    simp only [dD, Bool.and_eq_true] at this
    have h3 := this.1.2
    simp [show op = 14 from h14] at h3
    simp [ag.eff, show op = 14 from h14]; exact h3
  clear hpi0
  have hnl := tR ⟨op, a, b, t⟩ p (gd ds p)
  generalize ag.nexts ⟨op, a, b, t⟩ p (gd ds p) = L at *
  generalize (ag.eff ⟨op, a, b, t⟩).1 = e1 at *
  generalize (ag.eff ⟨op, a, b, t⟩).2 = e2 at *
  generalize hgg : gd ds (p : Int) = g at *
  by_cases hlt : g < e1
  ·rw [if_pos hlt] at hfl
   rw [<- hfl]
   repeat' (first | refine W_ ?_ | refine acW ?_ | (refine ak ?_; intro ss bb) | refine ae ?_ | refine ac hG hst (hef) ?_)
   refine ek 2 1 (by omega) rfl fun ss => dx x_ rfl (ss, 0) trivial rfl (.cons _ _ _ _ (.nil R)) pk_ (.tmp _ _ rfl) (.tmp _ _ rfl) rfl
  rw [if_neg hlt] at hfl
  replace hn0 := hn0 hlt
  have hlr := fun s b => n8 op s b
  have hol := uw op
  repeat' (first | refine W_ ?_ | refine acW ?_ | (refine ak ?_; intro ss bb) | refine ae ?_ | refine ac hG hst (hef) ?_ | ((with_reducible apply aE); rfl; kernel_rfl; (repeat (first | exact ay.nil | ((with_reducible apply ay.cons); rfl))); exact hG; exact od ss bb op a b t; exact .cons _ _ _ _ (.nil _); intro y _; obtain ⟨sl5, bl5⟩ := y; refine abn ?_))
  generalize ss = s6; generalize bb = b6
  have hlr6 := hlr s6 b6
  clear hlr
  apply ai (X := Nat) [1, 4, 9, 11, 12, 100, 101, 1000000] (fun k => [(102, .int .i64 (k : Int)), (10, .ms st bt (pre ++ [[TV.int .i64 (p : Int)]]).length q.length)]) (fun _ => (sl5, bl5, .row 1 (wP op s6 b6)) :: (s6, b6, .box [.int .i64 op, .int .i64 a, .int .i64 b, .str t]) :: (st, bt, .row 1 ((pre ++ [[TV.int .i64 (p : Int)]]) ++ aR (nts q))) :: (sd, bd, .row 1 (aR ds)) :: R)
    (fun k => k <= (cF op).length /\ ((cF op).take k).any (gN is p op ∘ qK a b) = false) (fun k => (cF op).length - k) 0 ⟨Nat.zero_le _, rfl⟩
  (repeat (first | exact jB.nil | (apply jB.cons; rfl)))
  ·(repeat (first | exact bX.envNil | refine bX.envCons (by first | rfl | exact aeB rfl (by simp) (by simp)) ?_))
  ·refine .cons (.head _) (.cons (.head _) ?_)
   rw [List.append_assoc]
   exact .refl _
  have hpr : (pre ++ [[TV.int .i64 (p : Int)]]).length = pre.length + 1 := by simp
  generalize pre ++ [[TV.int .i64 (p : Int)]] = pre1 at *
  rintro k ⟨hk, hka⟩
  try dsimp only
  by_cases hkl : k < (cF op).length
  ·have hrow := xt (s := s6) (b := b6) hkl
   have hkk : ((cF op).take (k + 1)).any (gN is p op ∘ qK a b) = (gN is p op ∘ qK a b) (cF op)[k] := by
     rw [List.take_add_one, List.any_append, hka, List.getElem?_eq_getElem hkl]; simp
   have hkb : (gN is p op ∘ qK a b) (cF op)[k] = true -> (cF op).any (gN is p op ∘ qK a b) = true := fun h => List.any_eq_true.2 ⟨_, List.getElem_mem hkl, h⟩
   have hmem := qH (List.getElem_mem hkl)
   have hin := List.all_eq_true.1 hlb _ (List.getElem_mem hkl)
   generalize (cF op)[k] = o at hrow hkk hkb hmem hin
   dsimp only [Function.comp] at hkk hkb
   simp only [inR, decide_eq_true_eq] at hin
   obtain ⟨vn, hvn⟩ : ∃ vn : Nat, qK a b o = (vn : Int) := ⟨(qK a b o).toNat, by omega⟩
   rw [hvn] at hkk hkb hin
   have hvl : vn < is.length := by omega
   repeat' refine H_ 30 ?_
   refine ⟨dv ?_⟩
   apply fK (X := Unit) [1, 4, 9, 10, 11, 12, 100, 101, 102, 1000000] (fun _ => [(126, .bool (gN is p op (vn : Int)))]) (fun _ => (sl5, bl5, .row 1 (wP op s6 b6)) :: (s6, b6, .box [.int .i64 op, .int .i64 a, .int .i64 b, .str t]) :: (st, bt, .row 1 (pre1 ++ aR (nts q))) :: (sd, bd, .row 1 (aR ds)) :: R) (fun _ => True)
   case hk => (repeat (first | exact jB.nil | (apply jB.cons; rfl)))
   ·have hri : (d8 is)[vn]? = some (is[vn]).tv := by simp only [d8, List.getElem?_map]; rw [List.getElem?_eq_getElem hvl]; rfl
    have hoa : aex is (vn : Int) = is[vn].op := by simp [aex, hvl]
    clear hkk hkb hka hlb hfl hnx hef hpo ht
    generalize is[vn] = iu at hri hoa
    obtain ⟨op', a', b', t'⟩ := iu
    replace hri : (d8 is)[vn]? = some [.int .i64 op', .int .i64 a', .int .i64 b', .str t'] := hri
    have hbs : gN is p op (vn : Int) = (!decide (op = 26) && decide ((vn : Int) <= p) && !decide (op' = 23)) := by simp [gN, hoa]
    rw [hbs]
    have hw3 : op = 26 \/ (¬ op = 26 /\ (vn : Int) <= p) \/ (¬ op = 26 /\ ¬ (vn : Int) <= p) := by omega
    rcases hmem with rfl | rfl
    all_goals
      first
        | obtain rfl : a = (vn : Int) := hvn
        | obtain rfl : b = (vn : Int) := hvn
      rcases hw3 with h26 | ⟨h26, hle⟩ | ⟨h26, hle⟩
      all_goals
        repeat' refine V_ ?_
        refine ee () trivial (.of _ nw_ od_ pk_)
   ·intro _ _
    by_cases hbk : gN is p op (vn : Int) = true
    ·rw [hkb hbk, if_pos rfl] at hfl
     rw [hbk, <- hfl]
     repeat' (first | with_reducible refine cW rfl ?_ | ((with_reducible first | apply wT | apply nw); rfl; rfl) | with_reducible refine dv ?_ | with_reducible refine cn ?_ | with_reducible refine fR ?_ | with_reducible refine dU ?_ | with_reducible refine cI ?_ | with_reducible refine dZ ?_ | with_reducible refine dY ?_ | with_reducible refine fW ?_ | with_reducible refine bD ?_ | with_reducible refine bp rfl ?_ | with_reducible refine bC ?_ | with_reducible refine bK ?_ | with_reducible refine bA ?_ | with_reducible refine da ?_ | refine cr rfl rr_ ?_ | refine cm rfl rr_ ?_ | (refine bV rfl rr_ dd_ ?_) | (refine bU rfl rr_ dd_ ?_) | (refine eh rfl rr_ (fun hc => ?_) (fun hc => ?_)) | (refine df rfl rr_ (fun hc => ?_) (fun hc => ?_)))
     refine ek 2 1 (by omega) rfl fun ss => dx x_ rfl (ss, 0) trivial rfl (.cons _ _ _ _ (.nil R)) pk_ (.tmp _ _ rfl) (.tmp _ _ rfl) rfl
    ·rw [Bool.not_eq_true] at hbk
     rw [hbk]
     repeat' refine W_ ?_
     exact ah (k + 1) ⟨by omega, by rw [hkk, hbk]⟩ (by omega) (.of _ nw_ od_ pk_)
  ·rw [List.take_of_length_le (by omega)] at hka
   rw [hka, if_neg (by simp)] at hfl
   repeat' (first | refine V_ ?_ | refine ad hG hst (hnx) ?_)
   clear hka hlb hef hnx hmu
   apply ai (X := Nat × List Int × List Nat × Nat × List (List TV)) [1, 4, 9, 134, 135, 1000000] (fun x => [(136, .int .i64 (x.1 : Int)), (10, .ms st x.2.2.2.1 x.2.2.2.2.length (q.length + x.2.2.1.length))])
     (fun x => (st, x.2.2.2.1, .row 1 (x.2.2.2.2 ++ aR (nts (q ++ x.2.2.1)))) :: (sd, bd, .row 1 (aR x.2.1)) :: R)
     (fun x => x.1 <= L.length /\ x.2.1.length = is.length /\ x.2.2.1.length <= x.1 /\ gz is.length (L.drop x.1) (x.2.1, x.2.2.1) = gz is.length L (ds, [])) (fun x => L.length - x.1) (0, ds, [], bt, pre1) ⟨Nat.zero_le _, hdl, Nat.zero_le _, rfl⟩
   exact kp_; exact nw_
   ·rw [List.append_nil]; exact pk_
   rintro ⟨k, ds', new, bt', pre'⟩ ⟨hk, hdl', hnw, hpu⟩
   dsimp only at hk hdl' hnw hpu |-
   have hqf : q.length <= is.length := by have := hD'.mu; omega
   by_cases hkl : k < L.length
   ·rw [List.drop_eq_getElem_cons hkl] at hpu
    have hrow : (plR L)[k]? = some [.int .i64 L[k].1, .int .i64 L[k].2] := by simp [plR, hkl]
    generalize L[k] = uv at hpu hrow
    obtain ⟨u, v⟩ := uv
    dsimp only at hrow
    rw [yK] at hpu
    repeat' (first | ((with_reducible apply o_y); exact y_; rfl) | (refine ak ?_; intro ss bb) | refine ae ?_ | with_reducible refine tO (id := 10) ?_  | with_reducible refine cW rfl ?_ | (with_reducible first | apply dv | apply cn | apply fR | apply dU | apply cI | apply dZ | apply dY | apply fW | apply bD | apply (bp rfl) | apply bC | apply bK | apply bA | apply da) | refine iO rfl rfl rfl rr_ ?_ | refine fY rfl rfl rfl rr_ rfl rfl rfl ?_ | refine et rfl rfl rfl rr_ rfl rfl ?_ | (refine oX rfl rfl rfl rr_ dd_ ?_) | (refine oE rfl rfl rfl rr_ dd_ ?_) | (refine dN rfl rfl rfl rr_ (fun hg => ?_) (fun hg => ?_)) | (refine dp rfl rfl rfl rr_ (fun hg => ?_) (fun hg => ?_)) | refine cr rfl rr_ ?_ | refine cm rfl rr_ ?_ | (refine bV rfl rr_ dd_ ?_) | (refine bU rfl rr_ dd_ ?_) | (refine eh rfl rr_ (fun hc => ?_) (fun hc => ?_)) | (refine df rfl rr_ (fun hc => ?_) (fun hc => ?_)))
    refine ⟨cI (dv ?_)⟩
    generalize ss = s8; generalize bb = b8
    apply fK (X := Unit) [1, 4, 9, 10, 18, 134, 135, 136, 1000000] (fun _ => [(140, .bool (uP is.length ds' u v))]) (fun _ => (s8, b8, .box [.int .i64 u, .int .i64 v]) :: (st, bt', .row 1 (pre' ++ aR (nts (q ++ new)))) :: (sd, bd, .row 1 (aR ds')) :: R) (fun _ => True)
    case hk => (repeat (first | exact jB.nil | (apply jB.cons; rfl)))
    ·clear hpu hfl hn0 hpo ht
     by_cases hin : inR u 0 ((is.length : Int) - 1) = true
     ·have hw : ∀ G, Ct Tryz.prog G 47 [.int .i64 u, .int .i64 0, .int .i64 ((is.length - 1 : Nat) : Int)] (fun _ => .bool true) := fun G => by rw [hc1, <- hin]; exact aK _ _ _
      have hin2 : 0 <= u /\ u <= (is.length : Int) - 1 := by simpa [inR] using hin
      obtain ⟨un, rfl⟩ : ∃ un : Nat, u = (un : Int) := ⟨u.toNat, by omega⟩
      have hun : un < is.length := by omega
      have hrd : (aR ds')[un]? = some [.int .i64 (gd ds' (un : Int))] := by
        have h9 := qV (ds := ds') (p := un) (by omega)
        simp only [aR, List.getElem?_map]
        rw [List.getElem?_eq_getElem (by omega), h9]; rfl
      have hbs : uP is.length ds' (un : Int) v = (decide (250 < v) || (decide (0 <= gd ds' (un : Int)) && !decide (gd ds' (un : Int) = v))) := by simp [uP, hin]
      rw [hbs]
      generalize gd ds' (un : Int) = gv at hrd |-
      have hw3 : 250 < v \/ (¬ 250 < v /\ 0 <= gv) \/ (¬ 250 < v /\ ¬ 0 <= gv) := by omega
      rcases hw3 with h250 | ⟨h250, hg0'⟩ | ⟨h250, hg0'⟩
      all_goals
        repeat' (first | refine V_ ?_ | refine ad hG hst (hw _) ?_)
        refine ee () trivial (.of _ (bX.envCons (jZ rfl (by simp [*])) bX.envNil) od_ pk_)
     ·rw [Bool.not_eq_true] at hin
      have hw : ∀ G, Ct Tryz.prog G 47 [.int .i64 u, .int .i64 0, .int .i64 ((is.length - 1 : Nat) : Int)] (fun _ => .bool false) := fun G => by rw [hc1, <- hin]; exact aK _ _ _
      have hbs : uP is.length ds' u v = true := by simp [uP, hin]
      rw [hbs]
      repeat' (first | refine V_ ?_ | refine ad hG hst (hw _) ?_)
      refine ee () trivial (.of _ nw_ od_ pk_)
    ·intro _ _
     by_cases hb : uP is.length ds' u v = true
     ·rw [if_pos hb] at hpu
      rw [<- hpu] at hfl
      dsimp only at hfl
      rw [hb, <- hfl]
      repeat' (first | with_reducible refine cW rfl ?_ | ((with_reducible first | apply wT | apply nw); rfl; rfl) | with_reducible refine dv ?_ | with_reducible refine cn ?_ | with_reducible refine fR ?_ | with_reducible refine dU ?_ | with_reducible refine cI ?_ | with_reducible refine dZ ?_ | with_reducible refine dY ?_ | with_reducible refine fW ?_ | with_reducible refine bD ?_ | with_reducible refine bp rfl ?_ | with_reducible refine bC ?_ | with_reducible refine bK ?_ | with_reducible refine bA ?_ | with_reducible refine da ?_ | refine cr rfl rr_ ?_ | refine cm rfl rr_ ?_ | (refine bV rfl rr_ dd_ ?_) | (refine bU rfl rr_ dd_ ?_) | (refine eh rfl rr_ (fun hc => ?_) (fun hc => ?_)) | (refine df rfl rr_ (fun hc => ?_) (fun hc => ?_)))
      refine ek 2 1 (by omega) rfl fun ss => dx x_ rfl (ss, 0) trivial rfl (.cons _ _ _ _ (.nil R)) pk_ (.tmp _ _ rfl) (.tmp _ _ rfl) rfl
     ·rw [if_neg hb] at hpu
      have hin : inR u 0 ((is.length : Int) - 1) = true := by
        cases h : inR u 0 ((is.length : Int) - 1)
        ·exact absurd (by simp [uP, h]) hb
        ·rfl
      rw [Bool.not_eq_true] at hb
      rw [hb]
      have hin2 : 0 <= u /\ u <= (is.length : Int) - 1 := by simpa [inR] using hin
      obtain ⟨un, rfl⟩ : ∃ un : Nat, u = (un : Int) := ⟨u.toNat, by omega⟩
      have hun : un < is.length := by omega
      have hrd : (aR ds')[un]? = some [.int .i64 (gd ds' (un : Int))] := by
        have h9 := qV (ds := ds') (p := un) (by omega)
        simp only [aR, List.getElem?_map]
        rw [List.getElem?_eq_getElem (by omega), h9]; rfl
      have hrl : pre'.length + (q.length + new.length) <= (pre' ++ aR (nts (q ++ new))).length := by simp [aR, nts]
      have hlive : ((pre' ++ aR (nts (q ++ new))).drop pre'.length).take (q.length + new.length) = aR (nts (q ++ new)) := by
        rw [List.drop_left, List.take_of_length_le (by simp [aR, nts])]
      by_cases hgn : gd ds' (un : Int) < 0
      ·rw [if_pos hgn] at hpu
       have hset : (aR ds').set un [.int .i64 v] = aR (ds'.set un v) := rZ ds' un v
       repeat' (first | refine W_ ?_ | refine bJ ?_ | refine ch ?_ | (refine aer ?_; intro bb pp))
       refine ah (k + 1, ds'.set un v, new ++ [un], bb, pp) ⟨by dsimp only; omega, by simp [hdl'], by simp; omega, by dsimp only; rw [<- hpu]; rfl⟩ (by dsimp only; omega) (.of _ nw_ od_ pk_)
      ·rw [if_neg hgn] at hpu
       repeat' refine W_ ?_
       refine ah (k + 1, ds', new, bt', pre') ⟨by dsimp only; omega, hdl', by dsimp only; omega, by dsimp only; exact hpu⟩ (by dsimp only; omega) (.of _ nw_ od_ pk_)
   ·rw [List.drop_of_length_le (by omega)] at hpu
    rw [<- hpu] at hfl
    dsimp only [gz] at hfl
    repeat' refine W_ ?_
    refine ah (ds', q ++ new, pre', bt', j) ⟨by dsimp only; omega, ?_, by dsimp only; exact hfl⟩ (by dsimp only; omega) (.of _ nw_ od_ pk_)
    dsimp only
    exact jv L ds q [] (ds', new) hn0 (by rw [List.append_nil]; exact hD') hpu.symm
def rB (cs : List aw) (k n : Int) : Prop := ∃ x, cs[k.toNat]? = some x /\ x.block = false /\ x.params = n
theorem gP {cs : List aw} {k n : Int} {j : Nat} {x : aw} (hk : k = j) (hx : cs[j]? = some x) : rB cs k n ↔ x.block = false /\ x.params = n := by
 unfold rB
 subst hk
 rw [Int.toNat_natCast, hx]
 constructor
 ·rintro ⟨y, hy, h⟩; cases hy; exact h
 ·exact fun h => ⟨x, rfl, h⟩
def eU (nc : Nat) (cs : List aw) (e : av) : Prop :=
 (cy e.selector.data.toList = true /\ inR e.owner 16 ((nc : Int) - 1) = true /\ inR e.code 0 ((cs.length : Int) - 1) = true) /\ rB cs e.code (bW e.selector.data.toList)
def er (e f : av) : Prop := f.owner = e.owner /\ f.class_ = e.class_ /\ f.selector = e.selector
def dy (es : List av) (i : Nat) (e : av) : Prop := ∀ f ∈ es.take i, ¬ er e f
def oT (nc : Nat) (cs : List aw) (es : List av) : Prop := ∀ (i : Nat) (h : i < es.length), eU nc cs es[i] /\ dy es i es[i]
open Classical in
noncomputable def fy (nc : Nat) (cs : List aw) (es : List av) : Bool := decide (oT nc cs es /\ es.length <= 96)
theorem ww {nc : Nat} {cs : List aw} {es : List av} {i : Nat} (h : i < es.length) (hb : ¬ (eU nc cs es[i] /\ dy es i es[i])) : ¬ oT nc cs es := fun k => hb (k i h)
theorem ud {nc : Nat} {cs : List aw} {es : List av} (h : ∀ j, j < es.length -> ∀ h : j < es.length, eU nc cs es[j] /\ dy es j es[j]) : oT nc cs es := fun i hi => h i hi hi
open Classical in
theorem my {nc : Nat} {cs : List aw} {es : List av} {i : Nat} (h : i < es.length) (hb : ¬ (eU nc cs es[i] /\ dy es i es[i])) : fy nc cs es = false := decide_eq_false fun k => ww h hb k.1
open Classical in
theorem kp {nc : Nat} {cs : List aw} {es : List av} (h : ∀ j, j < es.length -> ∀ h : j < es.length, eU nc cs es[j] /\ dy es j es[j]) : fy nc cs es = decide ((es.length : Int) <= 96) := by
 unfold fy
 rw [decide_eq_decide]
 exact ⟨fun h => by omega, fun k => ⟨ud h, by omega⟩⟩
open Classical in
theorem rb {nc : Nat} {cs : List aw} {es : List av} (h : ¬ es.length <= 96) : fy nc cs es = false := decide_eq_false fun k => h k.2
def aaB (i : Nat) (x : ag) (o : List Int) : Option (List Int) :=
 if x.op = 15 then (if (0 <= x.a /\ x.a <= (i : Int) - 1) /\ ¬ 0 <= gd o x.a then some (o.set x.a.toNat i) else none) else some o
def mB (i : Nat) : List ag -> List Int -> Option (List Int)
 | [], o => some o
 | x :: r, o => match aaB i x o with
   | none => none
   | some o' => mB i r o'
def tB : Nat -> List aw -> List Int -> Option (List Int)
 | _, [], o => some o
 | i, x :: r, o => match mB i x.instrs o with
   | none => none
   | some o' => tB (i + 1) r o'
def ry (cs : List aw) (o : List Int) : Prop := ∀ (i : Nat) (h : i < cs.length), cs[i].block = decide (0 <= gd o (i : Int))
open Classical in
noncomputable def gF (cs : List aw) : Option (List Int) -> Option (List Int)
 | none => none
 | some o => if ry cs o then some o else none
noncomputable def fS (cs : List aw) (i : Nat) (r : List ag) (o : List Int) : Option (List Int) := gF cs (match mB i r o with
   | none => none
   | some o' => tB (i + 1) (cs.drop (i + 1)) o')
noncomputable def fI (cs : List aw) (i : Nat) (o : List Int) : Option (List Int) := gF cs (tB i (cs.drop i) o)
noncomputable def eL (cs : List aw) : Option (List Int) := fI cs 0 (List.replicate cs.length (-1))
theorem mF {cs : List aw} {i : Nat} (h : i < cs.length) (o : List Int) : fI cs i o = fS cs i cs[i].instrs o := by
 unfold fI fS
 rw [List.drop_eq_getElem_cons h]; rfl
theorem ot {cs : List aw} {i : Nat} (h : ¬ i < cs.length) (o : List Int) : fI cs i o = gF cs (some o) := by
 unfold fI
 rw [List.drop_of_length_le (by omega)]; rfl
theorem mJ {cs : List aw} {i k : Nat} {is : List ag} (h : k < is.length) (o : List Int) : fS cs i (is.drop k) o = match aaB i is[k] o with
   | none => none
   | some o' => fS cs i (is.drop (k + 1)) o' := by
 unfold fS
 rw [List.drop_eq_getElem_cons h]
 show gF cs (match (match aaB i is[k] o with | none => none | some o' => mB i (is.drop (k + 1)) o') with | none => none | some o' => tB (i + 1) (cs.drop (i + 1)) o') = _
 cases aaB i is[k] o <;> rfl
theorem om {cs : List aw} {i k : Nat} {is : List ag} (h : ¬ k < is.length) (o : List Int) : fS cs i (is.drop k) o = fI cs (i + 1) o := by
 unfold fS fI
 rw [List.drop_of_length_le (by omega)]; rfl
theorem tS {o : List Int} {a b : Nat} {v : Int} (h : a ≠ b) : gd (o.set a v) (b : Int) = gd o (b : Int) := by
 simp [gd, List.getElem?_set, h]
theorem lA {o : List Int} {a : Nat} {v : Int} (h : a < o.length) : gd (o.set a v) (a : Int) = v := by
 simp [gd, List.getElem?_set, h]
def cL (n : Nat) (o : List Int) : Prop := o.length = n /\ ∀ j : Nat, j < n -> gd o j = -1 \/ ((j : Int) < gd o j /\ gd o j < n)
theorem iB (n : Nat) : cL n (List.replicate n (-1)) := ⟨by simp, fun j hj => .inl (by simp [gd, hj])⟩
theorem np {n i : Nat} {x : ag} {o o' : List Int} (hi : i < n) (h : aaB i x o = some o') (ho : cL n o) : cL n o' /\ ∀ j : Nat, 0 <= gd o j -> 0 <= gd o' j := by
 unfold aaB at h
 split at h
 ·split at h
  ·rename_i h1
   cases h
   obtain ⟨a, ha⟩ : ∃ a : Nat, x.a = a := ⟨x.a.toNat, by omega⟩
   rw [ha] at h1 |-
   rw [Int.toNat_natCast]
   have hal : a < n := by omega
   refine ⟨⟨by simp [ho.1], fun j hj => ?_⟩, fun j hj => ?_⟩
   ·by_cases hja : a = j
    ·subst hja
     rw [lA (by rw [ho.1]; exact hal)]
     exact .inr ⟨by omega, by omega⟩
    ·rw [tS hja]; exact ho.2 j hj
   ·by_cases hja : a = j
    ·subst hja
     rw [lA (by rw [ho.1]; exact hal)]; omega
    ·rw [tS hja]; exact hj
  ·cases h
 ·cases h; exact ⟨ho, fun j hj => hj⟩
theorem gK {n i : Nat} (hi : i < n) : ∀ {r : List ag} {o o' : List Int}, mB i r o = some o' -> cL n o -> cL n o' /\ ∀ j : Nat, 0 <= gd o j -> 0 <= gd o' j
 | [], o, o', h, ho => by cases h; exact ⟨ho, fun _ hj => hj⟩
 | x :: r, o, o', h, ho => by
   unfold mB at h
   split at h
   ·cases h
   ·rename_i o1 h1
    obtain ⟨h2, h3⟩ := np hi h1 ho
    obtain ⟨h4, h5⟩ := gK hi h h2
    exact ⟨h4, fun j hj => h5 j (h3 j hj)⟩
theorem lE {n : Nat} : ∀ {r : List aw} {i : Nat} {o o' : List Int}, i + r.length <= n -> tB i r o = some o' -> cL n o -> cL n o' /\ ∀ j : Nat, 0 <= gd o j -> 0 <= gd o' j
 | [], i, o, o', _, h, ho => by cases h; exact ⟨ho, fun _ hj => hj⟩
 | x :: r, i, o, o', hn, h, ho => by
   unfold tB at h
   split at h
   ·cases h
   ·rename_i o1 h1
    simp only [List.length_cons] at hn
    obtain ⟨h2, h3⟩ := gK (by omega) h1 ho
    obtain ⟨h4, h5⟩ := lE (by omega) h h2
    exact ⟨h4, fun j hj => h5 j (h3 j hj)⟩
theorem ke {cs : List aw} {p : Option (List Int)} {o : List Int} (h : gF cs p = some o) : p = some o /\ ry cs o := by
 cases p with
 | none => cases h
 | some o' =>
   by_cases hf : ry cs o'
   ·have : gF cs (some o') = some o' := by unfold gF; exact if_pos hf
    rw [this] at h; cases h; exact ⟨rfl, hf⟩
   ·have : gF cs (some o') = none := by unfold gF; exact if_neg hf
    rw [this] at h; cases h
theorem jT {cs : List aw} {o : List Int} (h : eL cs = some o) : cL cs.length o /\ ry cs o := by
 obtain ⟨h1, h2⟩ := ke h
 exact ⟨(lE (by simp) h1 (iB _)).1, h2⟩
theorem n9 {cs : List aw} {i k : Nat} {is : List ag} {o : List Int} {a : Nat} (hi : i < cs.length) (ho : cL cs.length o) (ha : a < cs.length) (hb : cs[a].block = false) (hp : 0 <= gd o (a : Int)) : fS cs i (is.drop k) o = none := by
 cases h : fS cs i (is.drop k) o with
 | none => rfl
 | some o' =>
   exfalso
   obtain ⟨h1, h2⟩ := ke h
   split at h1
   ·cases h1
   ·rename_i o1 h3
    obtain ⟨h4, h5⟩ := gK hi h3 ho
    obtain ⟨h6, h7⟩ := lE (by simp; omega) h1 h4
    have h8 := h2 a ha
    rw [hb] at h8
    have h9 := h7 a (h5 a hp)
    rw [decide_eq_true h9] at h8
    cases h8
theorem q7 {cs : List aw} {o : List Int} {i : Nat} (h : i < cs.length) (hb : cs[i].block ≠ decide (0 <= gd o (i : Int))) : gF cs (some o) = none := by
 unfold gF
 exact if_neg fun k => hb (k i h)
theorem oo {cs : List aw} {o : List Int} (h : ∀ j, j < cs.length -> ∀ h : j < cs.length, cs[j].block = decide (0 <= gd o (j : Int))) : gF cs (some o) = some o := by
 unfold gF
 exact if_pos fun i hi => h i hi hi
def gG (o : List Int) : Nat -> Int -> List Int
 | 0, _ => []
 | n + 1, k => if k < 0 then [] else k :: gG o n (gd o k)
def upN (o : List Int) : Nat -> Int -> Int
 | 0, k => k
 | n + 1, k => if k < 0 then k else upN o n (gd o k)
theorem sj (o : List Int) (n : Nat) {k : Int} (h : k < 0) : upN o n k = k := by
 cases n with
 | zero => rfl
 | succ n => unfold upN; rw [if_pos h]
theorem nq {o : List Int} (hinv : cL o.length o) : ∀ (n : Nat) (k : Int) (b : Nat), k = -1 \/ (0 <= k /\ k < o.length /\ o.length <= n + k.toNat) -> (gG o n k)[b]? = if 0 <= upN o b k then some (upN o b k) else none
 | 0, k, b, h => by
   obtain rfl : k = -1 := by omega
   rw [sj o b (by omega)]; rfl
 | n + 1, k, b, h => by
   rcases h with rfl | ⟨h0, h1, h2⟩
   ·rw [sj o b (by omega)]; rfl
   ·unfold gG
    rw [if_neg (by omega)]
    obtain ⟨j, rfl⟩ : ∃ j : Nat, k = j := ⟨k.toNat, by omega⟩
    cases b with
    | zero =>
      show some (j : Int) = _
      unfold upN
      rw [if_pos h0]
    | succ b =>
      show (gG o n (gd o j))[b]? = _
      have hj := hinv.2 j (by omega)
      rw [nq hinv n (gd o j) b (by rw [Int.toNat_natCast] at h2; omega)]
      have : upN o (b + 1) j = upN o b (gd o j) := by
        conv => lhs; unfold upN
        rw [if_neg (by omega)]
      rw [this]
theorem kU (o : List Int) : ∀ (n : Nat) (k : Int), (gG o n k).length <= n
 | 0, _ => Nat.le_refl _
 | n + 1, k => by
   unfold gG
   split
   ·simp
   ·have := kU o n (gd o k); simp; omega
theorem bP {lo : Nat} {cs : List aw} {j : Nat} (h : j < cs.length) : (cs.map (aw.tw lo))[j]? = some [.bool cs[j].block, .int .i64 cs[j].params, .int .i64 cs[j].slots, .sl lo 4 (cs[j].instrs.map (ag.tw lo))] := aL h
theorem js {lo : Nat} {es : List av} {j : Nat} (h : j < es.length) : (es.map (av.tw lo))[j]? = some [.int .i64 es[j].owner, .bool es[j].class_, .str es[j].selector, .int .i64 es[j].code] := aL h
theorem ju {lo : Nat} {is : List ag} {j : Nat} (h : j < is.length) : (is.map (ag.tw lo))[j]? = some [.int .i64 is[j].op, .int .i64 is[j].a, .int .i64 is[j].b, .str is[j].text] := aL h
def ag.none : ag := ⟨0, 0, 0, ⟨#[]⟩⟩
def eN (cs : List aw) (o : List Int) (k : Nat) (b : Int) : Option aw := if 0 <= b /\ 0 <= upN o b.toNat k then cs[(upN o b.toNat k).toNat]? else none
def vT (cs : List aw) (o : List Int) (k : Nat) (x : ag) : Bool := match eN cs o k x.b with
 | none => false
 | some y => inR x.a (if x.op = 9 then y.params else 0) (IntKind.i64.wrap (y.slots - 1))
def ew (x : ag) : Prop := inR x.op 1 26 = true /\ (acJ x.op = true \/ x.a = 0) /\ (acT x.op = true \/ x.b = 0) /\ (acM x.op = true \/ x.text = ⟨#[]⟩)
instance (x : ag) : Decidable (ew x) := by unfold ew; infer_instance
def cM (cs : List aw) (nc : Nat) (o : List Int) (k : Nat) (own : aw) (x : ag) : Bool :=
 if x.op = 1 then inR x.a 0 999999999
 else if x.op = 2 then oM x.text
 else if x.op = 3 \/ x.op = 13 then cy x.text.data.toList
 else if x.op = 8 \/ x.op = 9 then vT cs o k x
 else if x.op = 10 \/ x.op = 11 then cq x.text.data.toList
 else if x.op = 12 then inR x.a 0 ((nc : Int) - 1)
 else if x.op = 14 then cy x.text.data.toList && inR x.a 0 ((nc : Int) - 1)
 else if x.op = 20 then inR x.a 0 ((own.instrs.length : Int) - 1)
 else if x.op = 21 \/ x.op = 22 then inR x.a 0 ((own.instrs.length : Int) - 1) && inR x.b 0 ((own.instrs.length : Int) - 1)
 else if x.op = 24 then inR x.b 0 ((own.instrs.length : Int) - 1)
 else if x.op = 25 \/ x.op = 26 then inR x.a own.params (own.slots - 1) && inR x.b 0 ((own.instrs.length : Int) - 1)
 else true
def fh (cs : List aw) (nc : Nat) (o : List Int) (k : Nat) (own : aw) (x : ag) : Bool := decide (ew x) && cM cs nc o k own x
theorem aay {cs : List aw} {nc : Nat} {o : List Int} {k : Nat} {own : aw} {x : ag} (h : fh cs nc o k own x = true) : dD own.instrs.length x = true := by
 obtain ⟨op, a, b, t⟩ := x
 unfold fh at h
 rw [Bool.and_eq_true, decide_eq_true_eq] at h
 obtain ⟨h0, h2⟩ := h
 have h1 := h0.1
 clear h0
 unfold dD
 rw [sh, List.all_map]
 simp only [inR, decide_eq_true_eq] at h1
 unfold cM at h2
 dsimp only at h2 h1 |-
 have h3 : inR op 1 26 = true := ti h1
 rw [h3, <- abG]
 simp only [cF]
 have hc : op = 1 \/ op = 2 \/ op = 3 \/ op = 4 \/ op = 5 \/ op = 6 \/ op = 7 \/ op = 8 \/ op = 9 \/ op = 10 \/ op = 11 \/ op = 12 \/ op = 13 \/ op = 14 \/ op = 15 \/ op = 16 \/ op = 17 \/ op = 18 \/ op = 19 \/ op = 20 \/ op = 21 \/ op = 22 \/ op = 23 \/ op = 24 \/ op = 25 \/ op = 26 := by omega
 clear h1 h3
 rcases hc with rfl | rfl | rfl | rfl | rfl | rfl | rfl | rfl | rfl | rfl | rfl | rfl | rfl | rfl | rfl | rfl | rfl | rfl | rfl | rfl | rfl | rfl | rfl | rfl | rfl | rfl
 all_goals first
   | rfl
   | (simp at h2; simp [h2, qK]; done)
   | (simp at h2; simp [h2.1, h2.2, qK]; done)
theorem qY {cs : List aw} {nc : Nat} {o : List Int} {k : Nat} {own : aw} (h : ∀ y ∈ own.instrs, fh cs nc o k own y = true) : j7 own.instrs = true := by
 unfold j7
 rw [List.all_eq_true]
 exact fun x hx => aay (h x hx)
def jf (cs : List aw) (i : Nat) (x : ag) : Prop := x.op = 15 -> (0 <= x.a /\ x.a <= (i : Int) - 1) /\ ∃ y, cs[x.a.toNat]? = some y /\ y.block = true
theorem qL {n i : Nat} (hi : i < n) : ∀ {r : List ag} {o o' : List Int}, mB i r o = some o' -> cL n o -> ∀ x ∈ r, x.op = 15 -> (0 <= x.a /\ x.a <= (i : Int) - 1) /\ 0 <= gd o' x.a
 | [], o, o', h, ho, x, hx, _ => by cases hx
 | y :: r, o, o', h, ho, x, hx, h15 => by
   unfold mB at h
   split at h
   ·cases h
   ·rename_i o1 h1
    obtain ⟨h2, h3⟩ := np hi h1 ho
    rcases List.mem_cons.1 hx with rfl | hx
    ·unfold aaB at h1
     rw [if_pos h15] at h1
     split at h1
     ·rename_i h4
      cases h1
      refine ⟨h4.1, ?_⟩
      obtain ⟨a, ha⟩ : ∃ a : Nat, x.a = a := ⟨x.a.toNat, by omega⟩
      have h5 := (gK hi h h2).2 a
      rw [ha] at h5 |-
      refine h5 ?_
      rw [Int.toNat_natCast, lA (by rw [ho.1]; omega)]
      omega
     ·cases h1
    ·exact qL hi h h2 x hx h15
theorem ul {n : Nat} : ∀ {r : List aw} {i : Nat} {o o' : List Int}, i + r.length <= n -> tB i r o = some o' -> cL n o -> ∀ (j : Nat) (c : aw), r[j]? = some c -> ∀ x ∈ c.instrs, x.op = 15 -> (0 <= x.a /\ x.a <= ((i + j : Nat) : Int) - 1) /\ 0 <= gd o' x.a
 | [], i, o, o', _, h, ho, j, c, hc, x, hx, _ => by simp at hc
 | y :: r, i, o, o', hn, h, ho, j, c, hc, x, hx, h15 => by
   unfold tB at h
   split at h
   ·cases h
   ·rename_i o1 h1
    simp only [List.length_cons] at hn
    obtain ⟨h2, h3⟩ := gK (by omega) h1 ho
    cases j with
    | zero =>
      simp at hc; subst hc
      obtain ⟨h4, h5⟩ := qL (by omega) h1 ho x hx h15
      refine ⟨h4, ?_⟩
      have h6 := (lE (by omega) h h2).2 x.a.toNat
      rw [Int.toNat_of_nonneg h4.1] at h6
      exact h6 h5
    | succ j =>
      have := ul (by omega) h h2 j c (by simpa using hc) x hx h15
      rw [show i + 1 + j = i + (j + 1) by omega] at this
      exact this
theorem rp {cs : List aw} {o : List Int} (h : eL cs = some o) {i : Nat} {c : aw} (hc : cs[i]? = some c) : ∀ x ∈ c.instrs, jf cs i x := fun x hx h15 => by
 obtain ⟨h1, h2⟩ := ke h
 have hi : i < cs.length := (List.getElem?_eq_some_iff.1 hc).1
 obtain ⟨h3, h4⟩ := ul (by simp) h1 (iB _) i c (by simpa using hc) x hx h15
 rw [Nat.zero_add] at h3
 refine ⟨h3, ?_⟩
 obtain ⟨a, ha⟩ : ∃ a : Nat, x.a = a := ⟨x.a.toNat, by omega⟩
 rw [ha] at h3 h4 |-
 rw [Int.toNat_natCast]
 have hal : a < cs.length := by omega
 refine ⟨cs[a], List.getElem?_eq_getElem hal, ?_⟩
 rw [h2 a hal]
 exact decide_eq_true h4
def rY (x : aw) : Prop := inR x.slots 0 30 = true /\ inR x.params 0 x.slots = true /\ x.instrs.length <= 900
def gj (cs : List aw) (nc : Nat) (o : List Int) (k : Nat) (x : aw) : Prop := rY x /\ (∀ y ∈ x.instrs, fh cs nc o k x y = true) /\ (bT x.instrs).isSome = true
open Classical in
noncomputable def yu (cs : List aw) (nc : Nat) (o : List Int) (k : Nat) (x : aw) : Bool := decide (gj cs nc o k x)
def sw (cs : List aw) (nc : Nat) (o : List Int) : Prop := ∀ (k : Nat) (h : k < cs.length), gj cs nc o k cs[k]
def wd (cs : List aw) (nc : Nat) : Prop := ∃ o, eL cs = some o /\ sw cs nc o
def abe (x : aA) : Prop := inR x.main 0 ((x.codes.length : Int) - 1) = true /\ rB x.codes x.main 0
def fU (x : aA) : Prop := bS x.classes = true /\ x.codes.length <= 200 /\ abe x /\ fy x.classes.length x.codes x.entries = true /\ wd x.codes x.classes.length
open Classical in
noncomputable def dc (x : aA) : Bool := decide (fU x)
open Classical in
theorem ql {x : aA} (h : ¬ fU x) : dc x = false := decide_eq_false h
open Classical in
theorem qQ {x : aA} (h : fU x) : dc x = true := decide_eq_true h
open Classical in
theorem zZ {cs : List aw} {nc : Nat} {o : List Int} {k : Nat} {x : aw} (h : ¬ gj cs nc o k x) : yu cs nc o k x = false := decide_eq_false h
open Classical in
theorem zR {cs : List aw} {nc : Nat} {o : List Int} {k : Nat} {x : aw} (h : gj cs nc o k x) : yu cs nc o k x = true := decide_eq_true h
theorem fo {o : List Int} {j : Nat} (h : j < o.length) : (aR o)[j]? = some [.int .i64 (gd o (j : Int))] := by
 simp [aR, gd, h]
theorem jr (o : List Int) : ∀ (n : Nat) (k : Int), upN o (n + 1) k = if upN o n k < 0 then upN o n k else gd o (upN o n k)
 | 0, k => rfl
 | n + 1, k => by
   by_cases h : k < 0
   ·rw [sj o _ h, sj o _ h, if_pos h]
   ·have h1 : upN o (n + 1 + 1) k = upN o (n + 1) (gd o k) := by conv => lhs; unfold upN
                                                                 rw [if_neg h]
    have h2 : upN o (n + 1) k = upN o n (gd o k) := by conv => lhs; unfold upN
                                                       rw [if_neg h]
    rw [h1, h2]
    exact jr o n (gd o k)
theorem sL {o : List Int} (hinv : cL o.length o) : ∀ (n : Nat) (k : Int), k = -1 \/ (0 <= k /\ k < o.length) -> upN o n k = -1 \/ (0 <= upN o n k /\ upN o n k < o.length)
 | 0, k, h => h
 | n + 1, k, h => by
   rw [jr]
   have := sL hinv n k h
   split
   ·exact this
   ·obtain ⟨j, hj⟩ : ∃ j : Nat, upN o n k = j := ⟨(upN o n k).toNat, by omega⟩
    rw [hj] at this |-
    have := hinv.2 j (by omega)
    omega
theorem ac1 {o : List Int} (hinv : cL o.length o) {k : Int} (hk : 0 <= k /\ k < o.length) : ∀ n : Nat, 0 <= upN o n k -> (n : Int) <= upN o n k
 | 0, h => h
 | n + 1, h => by
   rw [jr] at h |-
   have hin := sL hinv n k (.inr hk)
   split
   ·rename_i h1; rw [if_pos h1] at h; omega
   ·rename_i h1
    rw [if_neg h1] at h
    have ih := ac1 hinv hk n (by omega)
    obtain ⟨j, hj⟩ : ∃ j : Nat, upN o n k = j := ⟨(upN o n k).toNat, by omega⟩
    rw [hj] at h hin ih |-
    have := hinv.2 j (by omega)
    omega
theorem uK {o : List Int} {k : Int} {n : Nat} (h : upN o n k < 0) : ∀ m, n <= m -> upN o m k = upN o n k
 | 0, hm => by obtain rfl : n = 0 := by omega
               rfl
 | m + 1, hm => by
   by_cases he : n = m + 1
   ·rw [he]
   ·have := uK h m (by omega)
    rw [jr, this, if_pos h]
theorem tC {cs : List aw} {o : List Int} {k : Nat} {b : Int} (h : b < 0) : eN cs o k b = none := by
 unfold eN
 exact if_neg (by omega)
theorem sN {cs : List aw} {o : List Int} {k n : Nat} {b : Int} (h : upN o n k < 0) (hn : (n : Int) <= b) : eN cs o k b = none := by
 unfold eN
 rw [uK h b.toNat (by omega)]
 exact if_neg (by omega)
theorem xC {cs : List aw} {o : List Int} {k j : Nat} {b : Int} {y : aw} (hb : 0 <= b) (h : upN o b.toNat k = j) (hj : cs[j]? = some y) : eN cs o k b = some y := by
 unfold eN
 rw [h, if_pos ⟨hb, by omega⟩, Int.toNat_natCast, hj]
theorem y0 {cs : List aw} {o : List Int} {k : Nat} (hinv : cL cs.length o) (hk : k < cs.length) {b : Int} {L : List Int} (hL : L = (gG o cs.length k).reverse) (h : 0 <= b /\ b <= (L.length : Int) - 1) :
   ∃ (q v : Nat) (y : aw), (L.length : Int) - 1 - b = q /\ (aR L)[q]? = some [.int .i64 (v : Int)] /\ cs[v]? = some y /\ eN cs o k b = some y := by
 obtain ⟨c, rfl⟩ : ∃ c : Nat, b = c := ⟨b.toNat, by omega⟩
 have hl : o.length = cs.length := hinv.1
 have hinv' : cL o.length o := by rw [hl]; exact hinv
 have hcl : L.length = (gG o cs.length k).length := by rw [hL, List.length_reverse]
 have hcu := nq hinv' cs.length (k : Int) c (.inr ⟨by omega, by omega, by rw [hl]; omega⟩)
 have hc : c < (gG o cs.length k).length := by omega
 rw [List.getElem?_eq_getElem hc] at hcu
 split at hcu
 ·rename_i h0
  have hin := sL hinv' c k (.inr ⟨by omega, by omega⟩)
  obtain ⟨v, hv⟩ : ∃ v : Nat, upN o c k = v := ⟨(upN o c k).toNat, by omega⟩
  rw [hv] at hin hcu
  have hvl : v < cs.length := by omega
  refine ⟨L.length - 1 - c, v, cs[v], by omega, ?_, List.getElem?_eq_getElem hvl, xC (by omega) (by rw [Int.toNat_natCast]; exact hv) (List.getElem?_eq_getElem hvl)⟩
  have hg : L[L.length - 1 - c]? = some (v : Int) := by
    rw [hL, List.getElem?_reverse (by rw [List.length_reverse]; omega), List.length_reverse]
    rw [show (gG o cs.length k).length - 1 - ((gG o cs.length k).length - 1 - c) = c by omega, List.getElem?_eq_getElem hc]
    exact hcu
  simp only [aR, List.getElem?_map, hg]; rfl
 ·cases hcu
theorem pD {cs : List aw} {o : List Int} {k : Nat} (hinv : cL cs.length o) (hk : k < cs.length) {b : Int} {L : List Int} (hL : L = (gG o cs.length k).reverse) (h : ¬ (0 <= b /\ b <= (L.length : Int) - 1)) : eN cs o k b = none := by
 by_cases h0 : b < 0
 ·exact tC h0
 obtain ⟨c, rfl⟩ : ∃ c : Nat, b = c := ⟨b.toNat, by omega⟩
 have hl : o.length = cs.length := hinv.1
 have hinv' : cL o.length o := by rw [hl]; exact hinv
 have hcl : L.length = (gG o cs.length k).length := by rw [hL, List.length_reverse]
 have hcu := nq hinv' cs.length (k : Int) c (.inr ⟨by omega, by omega, by rw [hl]; omega⟩)
 rw [List.getElem?_eq_none (by omega)] at hcu
 split at hcu
 ·cases hcu
 ·rename_i h1
  unfold eN
  rw [Int.toNat_natCast]
  exact if_neg fun h => h1 h.2
def GL (w : World) : Prop := ex w
theorem eg : aC GL := ⟨fun _ _ h hb => ex.below h hb⟩
theorem afi (s : ByteArray) (hs : s.size <= 1048576) : Ct Tryz.prog GL 249 [.str s] (fun _ => .int .i64 (bW s.data.toList)) := qs fun w _ => lR s w hs
theorem afv (s : ByteArray) (hs : s.size <= 1048576) : Ct Tryz.prog GL 193 [.str s] (fun _ => .bool (cy s.data.toList)) := ic fun w _ => dk s w hs
theorem afN (s : ByteArray) (hs : s.size <= 1048576) : Ct Tryz.prog GL 219 [.str s] (fun _ => .int .i64 (bW s.data.toList)) := qs fun w hG => rP s w hs hG
theorem afc (s : ByteArray) (hs : s.size <= 1048576) : Ct Tryz.prog GL 218 [.str s] (fun _ => .bool (cy s.data.toList)) := ic fun w hG => jL s w hs hG
theorem aa6 (r : Option (List Int)) : ∀ y : Nat × Nat, True -> (∀ s b o, (s, b, o) ∈ dO r y -> kC (dO r y) o) /\ jy (dO r y) (dR r y) := fun y _ =>
 ⟨fun s b o h => by
   simp only [dO, List.mem_singleton, Prod.mk.injEq] at h
   obtain ⟨_, _, rfl⟩ := h
   exact rC (kK _), .tup _ fun t ht => by
   simp only [List.mem_cons, List.not_mem_nil, or_false] at ht
   rcases ht with rfl | rfl
   ·exact .ms _ _ _ _ _ _ List.mem_cons_self
   ·exact .flat _ rfl⟩
theorem kB (lo : Nat) (is : List ag) : d8 is = is.map (ag.tw lo) := rfl
noncomputable def ac4 (cs : List aw) (K : Nat) : TV := .tup [.sl K 1 (aR ((eL cs).getD [])), .bool (eL cs).isSome]
theorem gX {B L : Nat} {objs : aF} {r : Option (List Int)} (h : r = none) : Fin B objs L .nils (.sl L 1 (aR (r.getD []))) := by subst h; exact .nils 1
theorem eM {B L : Nat} {objs : aF} {r : Option (List Int)} (h : r = none) : Fin B objs L (.bool false) (.bool r.isSome) := by subst h; exact .bool false
theorem xd {B L s b n : Nat} {objs : aF} {r : Option (List Int)} {o : List Int} (h : r = some o) (hn : o.length = n) (hm : (s, b, bv.row 1 (aR o)) ∈ objs) : Fin B objs L (.ms s b 0 n) (.sl L 1 (aR (r.getD []))) := by
 subst h; subst hn
 have hl := ar o
 exact Fin.msFlat hm (by omega) (by rw [List.drop_zero, List.take_of_length_le (by omega)]; rfl) (kK o)
theorem qO {B L : Nat} {objs : aF} {r : Option (List Int)} {o : List Int} (h : r = some o) : Fin B objs L (.bool true) (.bool r.isSome) := by subst h; exact .bool true
section
variable {G : World -> Prop}
theorem oe (hst : aC G) (f lo : Nat) (ccl cen : TV) (cs : List aw) (mn : Int) (hcs : cs.length <= 1048576 /\ ∀ y ∈ cs, aw.small 1048576 y) :
   Ct Tryz.prog G 107 [.cp f [ccl, .sl lo 4 (cs.map (aw.tw lo)), cen, .int .i64 mn]] (ac4 cs) := by
 refine aq Tryz.func107 rfl Tryz.ntmps107 rfl rfl fun w0 _ hG => ?_
 have hl2 := aw.len lo cs
 have hcl := hcs.1
 have h0 : (List.replicate cs.length [TV.int .i64 0]) = aR (i6 cs.length 0) := by simp [i6, aR]
 repeat' (first | refine W_ ?_ | (refine gI ?_; intro ss bb))
 generalize ss = sd; generalize bb = bd
 apply ai (X := Nat) [0, 4] (fun i => [(5, .int .i64 (i : Int))]) (fun i => [(sd, bd, .row 1 (aR (i6 cs.length i)))]) (fun i => i <= cs.length) (fun i => cs.length - i) 0 (Nat.zero_le _)
 exact kp_; exact nw_
 ·rw [<- h0]; exact .refl _
 intro i hi
 try dsimp only at hi |-
 by_cases hlt : i < cs.length
 ·obtain ⟨hrow, hset⟩ := qI hlt
  repeat' (first | refine W_ ?_ | refine bJ ?_)
  rw [hset]
  refine ah (i + 1) (by omega) (by omega) (.of _ nw_ od_ (.refl _))
 ·obtain rfl : i = cs.length := by omega
  clear hlt hi
  have hfull : i6 cs.length cs.length = List.replicate cs.length (-1) := by simp [i6]
  rw [hfull]
  have hst0 : fI cs 0 (List.replicate cs.length (-1)) = eL cs := rfl
  have hin0 := iB cs.length
  unfold ac4
  generalize eL cs = R at hst0
  generalize List.replicate cs.length (-1 : Int) = o0 at hst0 hin0
  repeat' refine W_ ?_
  apply ai (X := Nat × List Int) [0, 4] (fun x => [(6, .int .i64 (x.1 : Int))]) (fun x => [(sd, bd, .row 1 (aR x.2))]) (fun x => x.1 <= cs.length /\ cL cs.length x.2 /\ fI cs x.1 x.2 = R) (fun x => cs.length - x.1) (0, o0) ⟨Nat.zero_le _, hin0, hst0⟩
  exact kp_; exact nw_
  ·exact .refl _
  clear hin0 hst0
  rintro ⟨i, o⟩ ⟨hi, hin, hR⟩
  dsimp only at hi hin hR |-
  have hol : (aR o).length = cs.length := by rw [ar]; exact hin.1
  by_cases hlt : i < cs.length
  ·have hra := bP (lo := lo) hlt
   have hsm := hcs.2 _ (List.getElem_mem hlt)
   rw [mF hlt] at hR
   generalize cs[i] = c at hra hsm hR
   obtain ⟨cb, cp, csl, is⟩ := c
   dsimp only at hra hR
   have hil := ag.len lo is
   have hisl : is.length <= 1048576 := hsm.1
   repeat' refine W_ ?_
   apply ai (X := Nat × List Int) [0, 4, 6] (fun x => [(7, .int .i64 (x.1 : Int))]) (fun x => [(sd, bd, .row 1 (aR x.2))]) (fun x => x.1 <= is.length /\ cL cs.length x.2 /\ fS cs i (is.drop x.1) x.2 = R) (fun x => is.length - x.1) (0, o) ⟨Nat.zero_le _, hin, hR⟩
   exact kp_; exact nw_
   ·exact .refl _
   clear hin hR hol
   rintro ⟨k, o⟩ ⟨hk, hin, hR⟩
   dsimp only at hk hin hR |-
   have hol : (aR o).length = cs.length := by rw [ar]; exact hin.1
   by_cases hlk : k < is.length
   ·have hrk := ju (lo := lo) hlk
    rw [mJ hlk] at hR
    generalize is[k] = x at hrk hR
    obtain ⟨op, a, b, t⟩ := x
    unfold aaB at hR
    dsimp only at hrk hR
    by_cases h15 : op = 15
    ·rw [if_pos h15] at hR
     have h15' : ¬ op ≠ 15 := fun h => h h15
     by_cases hin2 : 0 <= a /\ a <= (i : Int) - 1
     ·have cin := bm (G := G) a 0 ((i - 1 : Nat) : Int)
      rw [ti (by omega)] at cin
      obtain ⟨q, rfl⟩ : ∃ q : Nat, a = q := ⟨a.toNat, by omega⟩
      have hql : q < o.length := by rw [hin.1]; omega
      have hrq := fo hql
      have hqc : q < cs.length := by omega
      by_cases hg : 0 <= gd o (q : Int)
      ·rw [if_neg fun h => h.2 hg] at hR
       repeat' (first | refine W_ ?_ | (refine ak ?_; intro ss bb) | refine ae ?_ | refine ac hG hst (cin) ?_)
       refine ei x_ rfl (.tmp _ _ rfl) (.tmp _ _ rfl) (fun _ => ?_) (fun _ => ?_)
       ·exact gX hR.symm
       ·exact eM hR.symm
      ·rw [if_pos ⟨hin2, hg⟩, Int.toNat_natCast] at hR
       dsimp only at hR
       have hset := rZ o q (i : Int)
       have hin3 := (np (n := cs.length) (i := i) (x := ⟨15, q, b, t⟩) (o := o) (o' := o.set q (i : Int)) hlt (by unfold aaB; rw [if_pos rfl, if_pos ⟨hin2, hg⟩, Int.toNat_natCast]) hin).1
       repeat' (first | refine W_ ?_ | (refine ak ?_; intro ss bb) | refine ae ?_ | refine ac hG hst (cin) ?_ | refine bJ ?_)
       rw [hset]
       refine ah (k + 1, o.set q (i : Int)) ⟨by dsimp only; omega, hin3, hR⟩ (by dsimp only; omega) (.of _ nw_ od_ pk_)
     ·have cin := bm (G := G) a 0 ((i : Int) - 1)
      have cin' := bm (G := G) a 0 ((i - 1 : Nat) : Int)
      rw [abb hin2] at cin
      rw [if_neg fun h => hin2 h.1] at hR
      repeat' (first | refine W_ ?_ | (refine ak ?_; intro ss bb) | refine ae ?_ | refine ac hG hst (cin) ?_)
      refine ei x_ rfl (.tmp _ _ rfl) (.tmp _ _ rfl) (fun _ => ?_) (fun _ => ?_)
      ·exact gX hR.symm
      ·exact eM hR.symm
    ·rw [if_neg h15] at hR
     dsimp only at hR
     repeat' (first | refine W_ ?_ | (refine ak ?_; intro ss bb) | refine ae ?_)
     refine ah (k + 1, o) ⟨by dsimp only; omega, hin, hR⟩ (by dsimp only; omega) (.of _ nw_ od_ pk_)
   ·rw [om hlk] at hR
    repeat' refine W_ ?_
    refine ah (i + 1, o) ⟨by dsimp only; omega, hin, hR⟩ (by dsimp only; omega) (.of _ nw_ od_ pk_)
  ·rw [ot hlt] at hR
   repeat' refine W_ ?_
   apply ai (X := Nat) [0, 4] (fun j => [(9, .int .i64 (j : Int))]) (fun _ => [(sd, bd, .row 1 (aR o))]) (fun j => j <= cs.length /\ ∀ q, q < j -> ∀ h : q < cs.length, cs[q].block = decide (0 <= gd o (q : Int))) (fun j => cs.length - j) 0 ⟨Nat.zero_le _, by omega⟩
   exact kp_; exact nw_
   ·exact .refl _
   rintro j ⟨hj, hja⟩
   try dsimp only
   by_cases hlj : j < cs.length
   ·have hra := bP (lo := lo) hlj
    have hrj := fo (o := o) (j := j) (by rw [hin.1]; exact hlj)
    have hbad := q7 (o := o) hlj
    have hnx : cs[j].block = decide (0 <= gd o (j : Int)) -> ∀ q, q < j + 1 -> ∀ h : q < cs.length, cs[q].block = decide (0 <= gd o (q : Int)) := fun ho => ca hja fun _ => ho
    generalize cs[j] = c at hra hbad hnx
    obtain ⟨cb, cp, csl, is⟩ := c
    dsimp only at hra hbad hnx
    generalize gd o (j : Int) = v at hrj hbad hnx
    by_cases hb : cb = decide (0 <= v)
    ·repeat' (first | refine V_ ?_ | refine c_ (fun hc => ?_) (fun hc => ?_))
     all_goals first
       | exact ah (j + 1) ⟨by omega, hnx hb⟩ (by omega) (.of _ nw_ od_ pk_)
       | (exfalso; simp_all; done)
    ·rw [hbad hb] at hR
     repeat' (first | refine V_ ?_ | refine c_ (fun hc => ?_) (fun hc => ?_))
     all_goals first
       | (exfalso; simp_all; done)
       | (refine ei x_ rfl (.tmp _ _ rfl) (.tmp _ _ rfl) (fun _ => ?_) (fun _ => ?_)
          ·exact gX hR.symm
          ·exact eM hR.symm)
   ·rw [oo fun q hq => hja q (by omega)] at hR
    repeat' refine W_ ?_
    refine ei x_ rfl (.tmp _ _ rfl) (.tmp _ _ rfl) (fun _ => ?_) (fun _ => ?_)
    ·exact xd hR.symm hin.1 List.mem_cons_self
    ·exact qO hR.symm
end
end Go.Proofs.YtigipcbnfeoliaaGreatDoor
