/- Part 11 of the proof: the texts SdA, SdB, SdC. -/
import Derived.Test.YtigipcbnfeoliaaGreatDoorRf7
import Derived.Test.YtigipcbnfeoliaaGreatDoorRf3
import Derived.Test.YtigipcbnfeoliaaGreatDoorRf8
set_option linter.all false
set_option maxHeartbeats 4000000
set_option maxRecDepth 20000
namespace Go.Proofs.YtigipcbnfeoliaaGreatDoor
open Go Go.RowKit
theorem pM {P : Program} {G : World -> Prop} {f : FuncId} {s : ByteArray} {n : Int} (h : ∀ w, G w -> Calls P f #[.string s] w fun e w' => e = .returned (.int .i64 n) /\ Below w.heap.size w w') : Ct P G f [.str s] (fun _ => .int .i64 n) := fun w vs _ hG hs hr => by
 obtain ⟨v, rfl, h1⟩ := ado hs hr
 rw [h1.str_inv]
 refine (h w hG).mono ?_
 rintro e w' ⟨rfl, hb⟩
 exact ⟨_, rfl, hb, fun _ _ => .int _ _⟩
def ai.tv (x : ai) : List TV := [.int .i64 x.op, .int .i64 x.a, .int .i64 x.b, .str x.text]
theorem sT {G : World -> Prop} (hst : ay G) (hca : ∀ s : ByteArray, s.size <= 1048576 -> Ct Tryz.prog G 249 [.str s] (fun _ => .int .i64 (bY s.data.toList))) (op a b : Int) (t : ByteArray) (hs : t.size <= 1048576) (hop : inR op 1 26 = true) : Ct Tryz.prog G 300 [.agg [.int .i64 op, .int .i64 a, .int .i64 b, .str t]] (fun _ => .tup [.int .i64 (ai.eff ⟨op, a, b, t⟩).1, .int .i64 (ai.eff ⟨op, a, b, t⟩).2]) := by
 refine aq Tryz.func300 rfl Tryz.ntmps300 rfl rfl fun w0 _ hG => ?_
 have h1 := rq t.data.toList
 have h2 := qF t.data.toList
 simp only [inR, decide_eq_true_eq] at hop
 repeat' (first | refine W_ ?_ | refine aH ?_ | refine ad hG hst (hca _ hs) ?_ | refine c_ (fun hc => ?_) (fun hc => ?_))
 all_goals
   clear hst
   have he : ai.eff ⟨op, a, b, t⟩ = ai.eff ⟨op, a, b, t⟩ := rfl
   conv at he => rhs; unfold ai.eff
   dsimp only at he
   rw [he]
   refine ex x_ rfl (.tmp _ _ rfl) (.tmp _ _ rfl) (fun _ => ?_) (fun _ => ?_)
   all_goals
     refine aaS ?_
     first
       | (subst hc; simp; done)
       | (have h3 : op = 20 \/ op = 23 := by omega
          rcases h3 with rfl | rfl <;> simp; done)
def d9 (is : List ai) : List (List TV) := is.map ai.tv
theorem kp (is : List ai) : (d9 is).length = is.length := by simp [d9]
def iI (n i : Nat) : List Int := List.replicate i (-1) ++ List.replicate (n - i) 0
theorem qc {n i : Nat} (h : i < n) : (aN (iI n i))[i]? = some [.int .i64 0] /\ (aN (iI n i)).set i [.int .i64 (-1)] = aN (iI n (i + 1)) := by
 have e : n - i = (n - (i + 1)) + 1 := by omega
 refine ⟨?_, ?_⟩
 ·simp only [aN, iI, List.getElem?_map]
  rw [List.getElem?_append_right (by simp), e, List.replicate_succ]; simp
 ·simp only [aN, iI]
  rw [e, List.replicate_succ, <- List.map_set]
  congr 1
  rw [List.set_append_right _ _ (by simp)]
  simp [List.replicate_succ', List.append_assoc]
def dO (r : Option (List Int)) (y : Nat × Nat) : aF := [(y.1, y.2, .row 1 (aN (r.getD [])))]
def dR (r : Option (List Int)) (y : Nat × Nat) : TV := .tup [.ms y.1 y.2 0 (r.getD []).length, .bool r.isSome]
theorem lX {G : World -> Prop} (hst : ay G) (hca : ∀ s : ByteArray, s.size <= 1048576 -> Ct Tryz.prog G 249 [.str s] (fun _ => .int .i64 (bY s.data.toList))) (lo l2 : Nat) (bl : Bool) (pr sl : Int) (is : List ai) (hn : is.length <= 1048576) (ht : ∀ i ∈ is, i.text.size <= 1048576) (hp : jz is = true) :
   CtM Tryz.prog G 251 [.cp lo [.bool bl, .int .i64 pr, .int .i64 sl, .sl l2 4 (d9 is)]] [] (fun _ : Nat × Nat => True) (dO (cY is)) (dR (cY is)) := by
 refine aw Tryz.func251 rfl Tryz.ntmps251 rfl rfl rfl fun w0 R gs objsR hG hR => ?_
 obtain rfl := hR.inv0
 have hlen := kp is
 repeat' (first | refine W_ ?_ | (refine gn ?_; intro ss bb))
 have h0 : (List.replicate is.length [TV.int .i64 0]) = aN (iI is.length 0) := by simp [iI, aN]
 apply am (X := Nat) [0, 4, 1000000] (fun i => [(5, .int .i64 (i : Int))]) (fun i => (ss, bb, .row 1 (aN (iI is.length i))) :: R) (fun i => i <= is.length) (fun i => is.length - i) 0 (Nat.zero_le _)
 exact kp_; exact nw_
 ·rw [<- h0]; exact .refl _
 intro i hi
 try dsimp only at hi |-
 by_cases hlt : i < is.length
 ·obtain ⟨hrow, hset⟩ := qc hlt
  repeat' (first | refine W_ ?_ | refine bm ?_)
  rw [hset]
  refine ag (i + 1) (by omega) (by omega) (.of _ nw_ od_ (.refl _))
 ·obtain rfl : i = is.length := by omega
  by_cases hz : is.length = 0
  ·have hd : cY is = none := by unfold cY; rw [if_pos hz]
   rw [hd]
   repeat' (first | refine W_ ?_ | (refine iK ?_; intro ss bb))
   refine d7 2 1 (by omega) rfl fun ss => cf x_ rfl (ss, 0) trivial rfl (.cons _ _ _ _ (.nil R)) pk_ (.tmp _ _ rfl) (.tmp _ _ rfl) rfl
  ·have hrow0 : (aN (iI is.length is.length))[0]? = some [.int .i64 (-1)] := by
     simp only [iI, aN, List.getElem?_map]
     rw [List.getElem?_append_left (by simp; omega), List.getElem?_replicate, if_pos (by omega)]; rfl
   have hset0 : (aN (iI is.length is.length)).set 0 [.int .i64 0] = aN (0 :: List.replicate (is.length - 1) (-1)) := by
     have e : is.length = (is.length - 1) + 1 := by omega
     simp only [iI, aN, Nat.sub_self, List.replicate_zero, List.append_nil]
     rw [e, List.replicate_succ]; rfl
   have hnz : 0 < is.length := by omega
   have hdS : qT is (tx is) is.length (0 :: List.replicate (is.length - 1) (-1)) [0] = cY is := by unfold cY; rw [if_neg hz]
   generalize ss = sd; generalize bb = bd
   repeat' (first | refine W_ ?_ | (refine iK ?_; intro ss bb) | refine bm ?_)
   generalize ss = st; generalize bb = bt
   rw [hset0]
   apply am (X := Nat × List Int × List Nat × Nat × Nat) [0, 4, 1000000] (fun x => [(6, .ms st x.2.2.2.1 0 x.2.2.1.length), (7, .int .i64 (x.1 : Int))]) (fun x => (st, x.2.2.2.1, .row 1 (aN (nts x.2.2.1))) :: (sd, bd, .row 1 (aN x.2.1)) :: R)
     (fun x => x.1 <= x.2.2.1.length /\ x.1 + x.2.2.2.2 <= is.length /\ DSt is.length x.2.1 (x.2.2.1.drop x.1) x.2.2.2.2 /\ qT is (tx is) x.2.2.2.2 x.2.1 (x.2.2.1.drop x.1) = cY is) (fun x => x.2.2.2.2) (0, 0 :: List.replicate (is.length - 1) (-1), [0], bt, is.length) ⟨Nat.zero_le _, by simp, mG (by omega), hdS⟩
   exact kp_; exact nw_
   ·exact .refl _
   rintro ⟨k, ds, td, bt, f⟩ ⟨hk, hkf, hD, hfl⟩
   dsimp only at hk hkf hD hfl |-
   by_cases hlt : k < td.length
   ·have hg : (aN (nts td))[k]? = some [.int .i64 ((td[k] : Nat) : Int)] := by simp [aN, nts, hlt]
    rw [List.drop_eq_getElem_cons hlt] at hD hfl
    obtain ⟨j, rfl, hD', hpn, hg0⟩ := hD.pop
    rw [iU _ _ _ _ _ hpn] at hfl
    have hrange := hD'.inv.gd (td[k] : Nat)
    have hdl := hD'.len
    have hdi : (aN ds)[td[k]]? = some [.int .i64 (gd ds (td[k] : Nat))] := by
      have h9 := qm (ds := ds) (p := td[k]) (by omega)
      simp only [aN, List.getElem?_map]
      rw [List.getElem?_eq_getElem (by omega), h9]; rfl
    have hii : (d9 is)[td[k]]? = some (is[td[k]]).tv := by simp only [d9, List.getElem?_map]; rw [List.getElem?_eq_getElem hpn]; rfl
    have hpi : dI is.length is[td[k]] = true := List.all_eq_true.1 hp _ (List.getElem_mem _)
    have hti := ht _ (List.getElem_mem hpn)
    generalize is[td[k]] = ii at hfl hii hpi hti
    obtain ⟨op, a, b, t⟩ := ii
    have her := iq ⟨op, a, b, t⟩
    have hop : inR op 1 26 = true := by simp only [dI, Bool.and_eq_true] at hpi; exact hpi.1.1
    have hef := sT hst hca op a b t hti hop
    replace hii : (d9 is)[td[k]]? = some [.int .i64 op, .int .i64 a, .int .i64 b, .str t] := hii
    have htd : td.length <= is.length := by have h9 := hD'.mu; simp at h9; omega
    generalize hp' : td[k] = p at *
    have hstep : tx is ⟨op, a, b, t⟩ p ds = if gd ds p - (ai.eff ⟨op, a, b, t⟩).1 < 0 \/ 250 < gd ds p - (ai.eff ⟨op, a, b, t⟩).1 + (ai.eff ⟨op, a, b, t⟩).2 then none else jq is p op (ai.nexts ⟨op, a, b, t⟩ p (gd ds p)) (ds, []) := rfl
    have hst1 := fun ds' new h => acl (i := ⟨op, a, b, t⟩) (ds' := ds') (new := new) hpi hD' (by omega) h
    have hnn := z8 (n := is.length) ⟨op, a, b, t⟩ p (gd ds p) hpi
    have hnl := sD ⟨op, a, b, t⟩ p (gd ds p)
    have hnx : ai.nexts ⟨op, a, b, t⟩ p (gd ds p) = ai.nexts ⟨op, a, b, t⟩ p (gd ds p) := rfl
    conv at hnx => rhs; unfold ai.nexts
    dsimp only at hnx
    generalize ai.nexts ⟨op, a, b, t⟩ p (gd ds p) = L at *
    generalize gd ds (p : Int) = g at *
    generalize he1 : (ai.eff ⟨op, a, b, t⟩).1 = e1 at *
    generalize he2 : (ai.eff ⟨op, a, b, t⟩).2 = e2 at *
    simp only [inR, decide_eq_true_eq] at hop
    repeat' (first | ((with_reducible apply o_y); exact y_; rfl) | (refine iK ?_; intro ss bb) | (refine ak ?_; intro ss bb) | refine ac ?_ | refine ad hG hst (hef) ?_ | with_reducible refine sE (id := 4) ?_  | with_reducible refine dc rfl ?_ | (with_reducible first | apply dq | apply cB | apply fO | apply dX | apply cR | apply dT | apply dW | apply fI | apply bB | apply (aq_block_miss rfl) | apply bC | apply bH | apply bz | apply db) | refine iM rfl rfl rfl rr_ ?_ | refine fB rfl rfl rfl rr_ rfl rfl rfl ?_ | refine et rfl rfl rfl rr_ rfl rfl ?_ | (refine ni rfl rfl rfl rr_ dd_ ?_) | (refine nT rfl rfl rfl rr_ dd_ ?_) | (refine dM rfl rfl rfl rr_ (fun hg => ?_) (fun hg => ?_)) | (refine dr rfl rfl rfl rr_ (fun hg => ?_) (fun hg => ?_)) | refine cw rfl rr_ ?_ | refine cx rfl rr_ ?_ | (refine bV rfl rr_ dd_ ?_) | (refine bW rfl rr_ dd_ ?_) | (refine eu rfl rr_ (fun hc => ?_) (fun hc => ?_)) | (refine df rfl rr_ (fun hc => ?_) (fun hc => ?_)))
    ·have hd : cY is = none := by rw [hstep, if_pos (.inl hg)] at hfl; exact hfl.symm
     rw [hd]
     refine d7 2 1 (by omega) rfl fun ss => cf x_ rfl (ss, 0) trivial rfl (.cons _ _ _ _ (.nil R)) pk_ (.tmp _ _ rfl) (.tmp _ _ rfl) rfl
    ·have hd : cY is = none := by rw [hstep, if_pos (.inr hc)] at hfl; exact hfl.symm
     rw [hd]
     refine d7 2 1 (by omega) rfl fun ss => cf x_ rfl (ss, 0) trivial rfl (.cons _ _ _ _ (.nil R)) pk_ (.tmp _ _ rfl) (.tmp _ _ rfl) rfl
    refine ⟨?_⟩
    rw [hstep, if_neg (by omega)] at hfl
    rw [if_neg (by omega)] at hstep
    rename_i s9 b9 s13 b13
    generalize ss = s14; generalize bb = b14
    apply fx (X := Nat × Nat × Nat × Nat × List Int) [0, 4, 6, 7, 8, 9, 1000000] (fun x => [(13, .ms x.1 x.2.1 0 L.length), (14, .ms x.2.2.1 x.2.2.2.1 0 (L.length + x.2.2.2.2.length))])
      (fun x => (x.1, x.2.1, .row 1 (aN (L.map Prod.fst))) :: (x.2.2.1, x.2.2.2.1, .row 1 (aN (L.map Prod.snd ++ x.2.2.2.2))) :: (s9, b9, .box [.int .i64 op, .int .i64 a, .int .i64 b, .str t]) :: (st, bt, .row 1 (aN (nts td))) :: (sd, bd, .row 1 (aN ds)) :: R) (fun x => True)
    case hk => (repeat (first | exact jp.nil | (apply jp.cons; rfl)))
    ·clear hfl hst1 hD hD' hstep
     by_cases h19 : op = 19
     ·obtain rfl : L = [] := by rw [hnx, if_pos h19]
      repeat' (first | refine W_ ?_ | (refine iK ?_; intro ss bb))
      refine eb (ss, bb, s14, b14, [g - e1 + e2]) trivial (.of _ nw_ od_ pk_)
     by_cases h20 : op = 20
     ·obtain rfl : L = [(a, g - e1 + e2)] := by rw [hnx, if_neg h19, if_pos h20]
      repeat' (first | refine W_ ?_ | (refine iK ?_; intro ss bb))
      refine eb (ss, bb, s14, b14, []) trivial (.of _ nw_ od_ pk_)
     by_cases h21 : op = 21 \/ op = 22
     ·obtain rfl : L = [((p : Int) + 1, g - e1 + e2), (a, g - e1 + e2), (b, g - e1 + e2 + 1)] := by rw [hnx, if_neg h19, if_neg h20, if_pos h21]
      have he0 : e2 = 0 := by
        rw [<- he2]; rcases h21 with rfl | rfl <;> rfl
      subst he0
      rcases h21 with rfl | rfl
      all_goals
        repeat' (first | refine W_ ?_ | refine dA ?_ | (refine sN ?_; intro bb))
        rename_i bb13
        refine eb (s13, bb13, s14, bb, []) trivial (.of _ nw_ od_ pk_)
     by_cases h24 : op = 24 \/ op = 25
     ·obtain rfl : L = [((p : Int) + 1, g - e1 + e2), (b, g - 1)] := by rw [hnx, if_neg h19, if_neg h20, if_neg h21, if_pos h24]
      have he0 : e1 = 2 := by
        rw [<- he1]; rcases h24 with rfl | rfl <;> rfl
      subst he0
      rcases h24 with rfl | rfl
      all_goals
        repeat' (first | refine W_ ?_ | refine dA ?_ | (refine sN ?_; intro bb))
        rename_i bb13
        refine eb (s13, bb13, s14, bb, []) trivial (.of _ nw_ od_ pk_)
     by_cases h26 : op = 26
     ·obtain rfl : L = [((p : Int) + 1, g - e1 + e2), (b, g)] := by rw [hnx, if_neg h19, if_neg h20, if_neg h21, if_neg h24, if_pos h26]
      have he0 : e1 = 2 := by
        rw [<- he1, h26]; rfl
      subst he0
      repeat' (first | refine W_ ?_ | refine dA ?_ | (refine sN ?_; intro bb))
      rename_i bb13
      refine eb (s13, bb13, s14, bb, []) trivial (.of _ nw_ od_ pk_)
     ·obtain rfl : L = [((p : Int) + 1, g - e1 + e2)] := by rw [hnx, if_neg h19, if_neg h20, if_neg h21, if_neg h24, if_neg h26]
      repeat' refine W_ ?_
      refine eb (s13, b13, s14, b14, []) trivial (.of _ nw_ od_ pk_)
    ·rintro ⟨s13', b13', s14', b14', r14⟩ _
     dsimp only
     rw [hstep] at hst1
     clear hnx he1 he2 her hef hpi hstep hD hD'
     repeat' refine W_ ?_
     apply am (X := Nat × List Int × List Nat × Nat) [0, 4, 7, 8, 9, 13, 14, 1000000] (fun x => [(15, .int .i64 (x.1 : Int)), (6, .ms st x.2.2.2 0 (td.length + x.2.2.1.length))])
       (fun x => (s13', b13', .row 1 (aN (L.map Prod.fst))) :: (s14', b14', .row 1 (aN (L.map Prod.snd ++ r14))) :: (s9, b9, .box [.int .i64 op, .int .i64 a, .int .i64 b, .str t]) :: (st, x.2.2.2, .row 1 (aN (nts (td ++ x.2.2.1)))) :: (sd, bd, .row 1 (aN x.2.1)) :: R)
       (fun x => x.1 <= L.length /\ x.2.1.length = is.length /\ x.2.2.1.length <= x.1 /\ jq is p op (L.drop x.1) (x.2.1, x.2.2.1) = jq is p op L (ds, [])) (fun x => L.length - x.1) (0, ds, [], bt) ⟨Nat.zero_le _, hdl, Nat.zero_le _, rfl⟩
     exact kp_; exact nw_
     ·rw [List.append_nil]; exact .refl _
     rintro ⟨q, ds', new, bt'⟩ ⟨hq, hdl', hnw, hpu⟩
     dsimp only at hq hdl' hnw hpu |-
     by_cases hql : q < L.length
     ·have hu0 := hnn _ (List.getElem_mem hql)
      rw [List.drop_eq_getElem_cons hql] at hpu
      have hr13 : (aN (L.map Prod.fst))[q]? = some [.int .i64 L[q].1] := by simp [aN, hql]
      have hr14 : (aN (L.map Prod.snd ++ r14))[q]? = some [.int .i64 L[q].2] := by
        simp only [aN, List.getElem?_map]
        rw [List.getElem?_append_left (by simpa using hql)]; simp [hql]
      generalize L[q] = uv at hu0 hpu hr13 hr14
      obtain ⟨u, v⟩ := uv
      obtain ⟨un, rfl⟩ : ∃ un : Nat, u = (un : Int) := ⟨u.toNat, by dsimp only at hu0; omega⟩
      dsimp only at hr13 hr14
      rw [xF] at hpu
      repeat' refine H_ 40 ?_
      refine ⟨dq ?_⟩
      apply fx (X := Unit) [0, 4, 6, 7, 8, 9, 13, 14, 15, 1000000] (fun _ => [(170, .bool (xD is p op (un : Int)))])
        (fun _ => (s13', b13', .row 1 (aN (L.map Prod.fst))) :: (s14', b14', .row 1 (aN (L.map Prod.snd ++ r14))) :: (s9, b9, .box [.int .i64 op, .int .i64 a, .int .i64 b, .str t]) :: (st, bt', .row 1 (aN (nts (td ++ new)))) :: (sd, bd, .row 1 (aN ds')) :: R) (fun _ => True)
      case hk => (repeat (first | exact jp.nil | (apply jp.cons; rfl)))
      ·clear hpu hfl hst1
       by_cases hlen1 : (is.length : Int) <= (un : Int)
       ·have hb : xD is p op (un : Int) = true := by simp [xD, hlen1]
        rw [hb]
        repeat' refine V_ ?_
        refine eb () trivial (.of _ nw_ od_ pk_)
       have hun : un < is.length := by omega
       have hri : (d9 is)[un]? = some (is[un]).tv := by simp only [d9, List.getElem?_map]; rw [List.getElem?_eq_getElem hun]; rfl
       have hoa : aeq is (un : Int) = is[un].op := by simp [aeq, hun]
       generalize is[un] = iu at hri hoa
       obtain ⟨op', a', b', t'⟩ := iu
       replace hri : (d9 is)[un]? = some [.int .i64 op', .int .i64 a', .int .i64 b', .str t'] := hri
       have hbs : xD is p op (un : Int) = (!decide (op = 26) && decide ((un : Int) <= p) && !decide (op' = 23)) := by simp [xD, gz, hlen1, hoa]
       rw [hbs]
       have hw3 : op = 26 \/ (¬ op = 26 /\ (un : Int) <= p) \/ (¬ op = 26 /\ ¬ (un : Int) <= p) := by omega
       rcases hw3 with h26 | ⟨h26, hle⟩ | ⟨h26, hle⟩
       all_goals
         repeat' refine V_ ?_
         refine eb () trivial (.of _ nw_ od_ pk_)
      ·intro _ _
       by_cases hbad : xD is p op (un : Int) = true
       ·have hd : cY is = none := by rw [if_pos hbad] at hpu; rw [<- hpu] at hfl; exact hfl.symm
        rw [hd, hbad]
        repeat' (first | with_reducible refine dc rfl ?_ | ((with_reducible first | apply o_move | apply mN); rfl; rfl) | with_reducible refine dq ?_ | with_reducible refine cB ?_ | with_reducible refine fO ?_ | with_reducible refine dX ?_ | with_reducible refine cR ?_ | with_reducible refine dT ?_ | with_reducible refine dW ?_ | with_reducible refine fI ?_ | with_reducible refine bB ?_ | with_reducible refine aq_block_miss rfl ?_ | with_reducible refine bC ?_ | with_reducible refine bH ?_ | with_reducible refine bz ?_ | with_reducible refine db ?_ | refine cw rfl rr_ ?_ | refine cx rfl rr_ ?_ | (refine bV rfl rr_ dd_ ?_) | (refine bW rfl rr_ dd_ ?_) | (refine eu rfl rr_ (fun hc => ?_) (fun hc => ?_)) | (refine df rfl rr_ (fun hc => ?_) (fun hc => ?_)))
        refine d7 2 1 (by omega) rfl fun ss => cf x_ rfl (ss, 0) trivial rfl (.cons _ _ _ _ (.nil R)) pk_ (.tmp _ _ rfl) (.tmp _ _ rfl) rfl
       have hun : un < is.length := Nat.lt_of_not_le fun h => hbad (by simp [xD]; left; omega)
       rw [if_neg hbad] at hpu
       rw [Bool.not_eq_true] at hbad
       rw [hbad]
       have hrd : (aN ds')[un]? = some [.int .i64 (gd ds' (un : Int))] := by
         have h9 := qm (ds := ds') (p := un) (by omega)
         simp only [aN, List.getElem?_map]
         rw [List.getElem?_eq_getElem (by omega), h9]; rfl
       have hll : (aN (nts (td ++ new))).length = td.length + new.length := by simp [aN, nts]
       by_cases hgd : gd ds' (un : Int) = -1
       ·rw [if_pos hgd] at hpu
        rw [hgd] at hrd
        repeat' (first | refine W_ ?_ | (with_reducible apply ku (id := 43) 10; kernel_rfl; kernel_rfl; kernel_rfl; (repeat (first | exact Cut.zero _ | apply Cut.succ))) | with_reducible refine iG (by kernel_rfl) (by kernel_rfl) ?_ | with_reducible refine lS ?_ | with_reducible refine iY ?_ | with_reducible refine iQ rfl ?_ | refine mb rfl rfl rfl rr_ ?_ | refine iO rfl rfl rfl rr_ rfl rfl rfl ?_ | refine f5 rfl rfl rfl rr_ rfl rfl ?_ | (refine rR rfl rfl rfl rr_ dd_ ?_) | (refine tF rfl rfl rfl rr_ dd_ ?_) | (refine ep rfl rfl rfl rr_ (fun hg => ?_) (fun hg => ?_)) | (refine dS rfl rfl rfl rr_ (fun hg => ?_) (fun hg => ?_)) | ((with_reducible apply d_y); exact y_; rfl) | refine bm ?_ | refine dA ?_ | (refine sN ?_; intro bb))
        refine ag (q + 1, ds'.set un v, new ++ [un], bb) ⟨by dsimp only; omega, by simp [hdl'], by simp; omega, by dsimp only; rw [<- hpu]; rfl⟩ (by dsimp only; omega) (.of _ nw_ od_ pk_)
       ·rw [if_neg hgd] at hpu
        by_cases hgv : gd ds' (un : Int) = v
        ·rw [if_pos hgv] at hpu
         repeat' refine V_ ?_
         refine ag (q + 1, ds', new, bt') ⟨by dsimp only; omega, hdl', by dsimp only; omega, by dsimp only; exact hpu⟩ (by dsimp only; omega) (.of _ nw_ od_ pk_)
        ·rw [if_neg hgv] at hpu
         have hd : cY is = none := by rw [<- hpu] at hfl; exact hfl.symm
         rw [hd]
         repeat' refine V_ ?_
         refine d7 2 1 (by omega) rfl fun ss => cf x_ rfl (ss, 0) trivial rfl (.cons _ _ _ _ (.nil R)) pk_ (.tmp _ _ rfl) (.tmp _ _ rfl) rfl
     ·rw [List.drop_of_length_le (by omega)] at hpu
      rw [<- hpu] at hfl
      dsimp only [jq] at hfl
      repeat' refine W_ ?_
      refine ag (k + 1, ds', td ++ new, bt', j) ⟨by simp; omega, by dsimp only; omega, ?_, ?_⟩ (by dsimp only; omega) (.of _ nw_ od_ pk_)
      ·dsimp only
       rw [List.drop_append_of_le_length (by omega)]
       exact hst1 ds' new hpu.symm
      ·dsimp only
       rw [List.drop_append_of_le_length (by omega)]; exact hfl
   ·rw [List.drop_eq_nil_of_le (by omega)] at hfl
    have hd : cY is = some ds := by rw [<- hfl]; simp [qT]
    have hdl := hD.len
    rw [hd]
    repeat' refine W_ ?_
    refine cf x_ rfl (sd, bd) trivial rfl (.cons _ _ _ _ (.nil R)) pk_ (.tmp _ _ rfl) (.tmp _ _ rfl) (by simp [dR, hdl])
theorem bg {G : World -> Prop} (n a b : Int) : Ct Tryz.prog G 103 [.int .i64 n, .int .i64 a, .int .i64 b] (fun _ => .bool (inR n a b)) := by
 refine aq Tryz.func103 rfl Tryz.ntmps103 rfl rfl fun w0 _ hG => ?_
 repeat' (first | with_reducible refine dc rfl ?_ | ((with_reducible apply o_y); exact y_; rfl) | with_reducible refine dq ?_ | with_reducible refine cB ?_ | with_reducible refine fO ?_ | with_reducible refine dX ?_ | with_reducible refine cR ?_ | with_reducible refine dT ?_ | with_reducible refine dW ?_ | with_reducible refine fI ?_ | with_reducible refine bB ?_ | with_reducible refine aq_block_miss rfl ?_ | with_reducible refine bC ?_ | with_reducible refine bH ?_ | with_reducible refine bz ?_ | with_reducible refine db ?_ | with_reducible refine dc rfl ?_ | refine iM rfl rfl rfl rr_ ?_ | refine fB rfl rfl rfl rr_ rfl rfl rfl ?_ | refine et rfl rfl rfl rr_ rfl rfl ?_ | (refine ni rfl rfl rfl rr_ dd_ ?_) | (refine nT rfl rfl rfl rr_ dd_ ?_) | (refine dM rfl rfl rfl rr_ (fun hg => ?_) (fun hg => ?_)) | (refine dr rfl rfl rfl rr_ (fun hg => ?_) (fun hg => ?_)) | refine cw rfl rr_ ?_ | refine cx rfl rr_ ?_ | (refine bV rfl rr_ dd_ ?_) | (refine bW rfl rr_ dd_ ?_) | (refine eu rfl rr_ (fun hc => ?_) (fun hc => ?_)) | (refine df rfl rr_ (fun hc => ?_) (fun hc => ?_)))
 all_goals
   refine aK x_ rfl (.tmp _ _ rfl) (fun _ => ?_)
   refine aJ ?_
   simp only [inR]
   first | (rw [decide_eq_decide]; omega) | (symm; rw [decide_eq_false_iff_not]; omega)
theorem aL {G : World -> Prop} (n a b : Int) : Ct Tryz.prog G 47 [.int .i64 n, .int .i64 a, .int .i64 b] (fun _ => .bool (inR n a b)) := by
 refine aq Tryz.func47 rfl Tryz.ntmps47 rfl rfl fun w0 _ hG => ?_
 repeat' (first | with_reducible refine dc rfl ?_ | ((with_reducible apply o_y); exact y_; rfl) | with_reducible refine dq ?_ | with_reducible refine cB ?_ | with_reducible refine fO ?_ | with_reducible refine dX ?_ | with_reducible refine cR ?_ | with_reducible refine dT ?_ | with_reducible refine dW ?_ | with_reducible refine fI ?_ | with_reducible refine bB ?_ | with_reducible refine aq_block_miss rfl ?_ | with_reducible refine bC ?_ | with_reducible refine bH ?_ | with_reducible refine bz ?_ | with_reducible refine db ?_ | with_reducible refine dc rfl ?_ | refine iM rfl rfl rfl rr_ ?_ | refine fB rfl rfl rfl rr_ rfl rfl rfl ?_ | refine et rfl rfl rfl rr_ rfl rfl ?_ | (refine ni rfl rfl rfl rr_ dd_ ?_) | (refine nT rfl rfl rfl rr_ dd_ ?_) | (refine dM rfl rfl rfl rr_ (fun hg => ?_) (fun hg => ?_)) | (refine dr rfl rfl rfl rr_ (fun hg => ?_) (fun hg => ?_)) | refine cw rfl rr_ ?_ | refine cx rfl rr_ ?_ | (refine bV rfl rr_ dd_ ?_) | (refine bW rfl rr_ dd_ ?_) | (refine eu rfl rr_ (fun hc => ?_) (fun hc => ?_)) | (refine df rfl rr_ (fun hc => ?_) (fun hc => ?_)))
 all_goals
   refine aK x_ rfl (.tmp _ _ rfl) (fun _ => ?_)
   refine aJ ?_
   simp only [inR]
   first | (rw [decide_eq_decide]; omega) | (symm; rw [decide_eq_false_iff_not]; omega)
def aeh (op : Int) : Bool := decide (op = 1 \/ op = 12 \/ op = 15 \/ op = 20 \/ op = 8 \/ op = 9 \/ op = 21 \/ op = 22 \/ op = 25 \/ op = 26 \/ op = 14)
def aeC (op : Int) : Bool := decide (op = 8 \/ op = 9 \/ op = 21 \/ op = 22 \/ op = 25 \/ op = 26 \/ op = 24)
def aea (op : Int) : Bool := decide (op = 2 \/ op = 3 \/ op = 10 \/ op = 11 \/ op = 13 \/ op = 14)
theorem xV {G : World -> Prop} (op : Int) : Ct Tryz.prog G 298 [.int .i64 op] (fun _ => .tup [.bool (aeh op), .bool (aeC op), .bool (aea op)]) := by
 refine aq Tryz.func298 rfl Tryz.ntmps298 rfl rfl fun w0 _ hG => ?_
 repeat' (first | with_reducible refine dc rfl ?_ | ((with_reducible apply o_y); exact y_; rfl) | with_reducible refine dq ?_ | with_reducible refine cB ?_ | with_reducible refine fO ?_ | with_reducible refine dX ?_ | with_reducible refine cR ?_ | with_reducible refine dT ?_ | with_reducible refine dW ?_ | with_reducible refine fI ?_ | with_reducible refine bB ?_ | with_reducible refine aq_block_miss rfl ?_ | with_reducible refine bC ?_ | with_reducible refine bH ?_ | with_reducible refine bz ?_ | with_reducible refine db ?_ | with_reducible refine dc rfl ?_ | refine iM rfl rfl rfl rr_ ?_ | refine fB rfl rfl rfl rr_ rfl rfl rfl ?_ | refine et rfl rfl rfl rr_ rfl rfl ?_ | (refine ni rfl rfl rfl rr_ dd_ ?_) | (refine nT rfl rfl rfl rr_ dd_ ?_) | (refine dM rfl rfl rfl rr_ (fun hg => ?_) (fun hg => ?_)) | (refine dr rfl rfl rfl rr_ (fun hg => ?_) (fun hg => ?_)) | refine cw rfl rr_ ?_ | refine cx rfl rr_ ?_ | (refine bV rfl rr_ dd_ ?_) | (refine bW rfl rr_ dd_ ?_) | (refine eu rfl rr_ (fun hc => ?_) (fun hc => ?_)) | (refine df rfl rr_ (fun hc => ?_) (fun hc => ?_)))
 all_goals
   refine zr x_ rfl (.tmp _ _ rfl) (.tmp _ _ rfl) (.tmp _ _ rfl) (fun _ => ?_) (fun _ => ?_) (fun _ => ?_)
   all_goals
     refine aJ ?_
     simp only [aeh, aeC, aea]
     symm
     first | (rw [decide_eq_true_iff]; omega) | (rw [decide_eq_false_iff_not]; omega)
end Go.Proofs.YtigipcbnfeoliaaGreatDoor
