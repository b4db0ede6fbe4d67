/- Part 17 of the proof: the texts SdF. -/
import Derived.Test.YtiihihgjiklnoaaGreatDoorQb10
import Derived.Test.YtiihihgjiklnoaaGreatDoorQb13
/- StackDepths by the engine: the program's StackDepths: what is asked of the instructions one by one. -/
namespace Go.Proofs.YtiihihgjiklnoaaGreatDoor
set_option maxRecDepth 20000
open Go Go.RowKit
theorem oF {op : Int} {o : Nat} (h : o ∈ cA op) : o = 1 ∨ o = 2 := by
  unfold cA at h
  repeat' split at h
  all_goals first
    | (simp at h; done)
    | (simp at h; omega)
    | skip
theorem rZ (op : Int) : (cA op).length ≤ 2 := by
  unfold cA
  repeat' split
  all_goals simp
theorem mK (op : Int) (s b : Nat) : (uY op s b).length = (cA op).length := by simp [uY]
theorem vo {op : Int} {s b q : Nat} (h : q < (cA op).length) : (uY op s b)[q]? = some [.mp s b (cA op)[q]] := by simp [uY, h]
def oI (a b : Int) (o : Nat) : Int := if o = 1 then a else b
theorem qn (op a b : Int) (t : ByteArray) : ag.labs ⟨op, a, b, t⟩ = (cA op).map (oI a b) := abx op a b t
theorem uS {α : Type} {p : α → Bool} {l : List α} {q : Nat} (h : q < l.length) (ha : (l.take q).all p = true) : (l.take (q + 1)).all p = p l[q] := by
  rw [List.take_add_one, List.all_append, ha, List.getElem?_eq_getElem h]; simp
theorem xP {α : Type} {p : α → Bool} {l : List α} {q : Nat} (h : q < l.length) (hb : p l[q] = false) : l.all p = false := by
  rw [List.all_eq_false]; exact ⟨_, List.getElem_mem h, by rw [hb]; simp⟩
theorem wj (n : Nat) (p d : Int) (r : List (Int × Int)) (ds : List Int) (q : List Nat) : fK n ((p, d) :: r) (ds, q) = if sK n ds p d then none else if gd ds p < 0 then fK n r (ds.set p.toNat d, q ++ [p.toNat]) else fK n r (ds, q) := rfl
def wa (op : Int) (t : ByteArray) : Bool := !inR op 1 26 || ((decide (op = 13) || decide (op = 14)) && decide (bT t.data.toList < 0))
theorem rF (n : Nat) (op a b : Int) (t : ByteArray) : dv n ⟨op, a, b, t⟩ = (!wa op t && ((cA op).all fun o => inR (oI a b o) 0 ((n : Int) - 1))) := by
  unfold dv wa
  rw [qn, List.all_map]
  have h1 : decide (0 ≤ bT t.data.toList) = !decide (bT t.data.toList < 0) := by
    rw [← decide_not]; exact decide_eq_decide.2 (by omega)
  rw [h1]
  cases inR op 1 26 <;> cases decide (op = 13) <;> cases decide (op = 14) <;> cases decide (bT t.data.toList < 0) <;> rfl

set_option maxRecDepth 4000 in
set_option maxHeartbeats 4000000 in
theorem iV {G : World → Prop} (hst : az G) (hca : ∀ s : ByteArray, s.size ≤ 1048576 → Ct Tryz.prog G 136 [.str s] (fun _ => .int .i64 (bT s.data.toList)))
    (l2 : Nat) (bl : Bool) (pr sl : Int) (is : List ag) (hn : is.length ≤ 1048576) (ht : ∀ i ∈ is, i.text.size ≤ 1048576) :
    CtM Tryz.prog G 138 [.agg [.bool bl, .int .i64 pr, .int .i64 sl, .sl l2 4 (dQ is)]] [] (fun _ : Nat × Nat => True) (dO (bR is)) (dR (bR is)) := by
  refine aC Tryz.func138 rfl Tryz.ntmps138 rfl rfl rfl fun w0 R gs objsR hG hR => ?_
  obtain rfl := hR.inv0
  clear hR
  have hlen := jC is
  by_cases hz : is.length = 0
  · have hd : bR is = none := by unfold bR; rw [if_pos hz]
    rw [hd]
    repeat' (first | refine W_ ?_ | refine aE ?_ | refine c_ (fun hc => ?_) (fun hc => ?_) | refine g_ (fun hg => ?_) (fun hg => ?_))
    refine db 2 1 (by omega) rfl fun ss => dp x_ rfl (ss, 0) trivial rfl (.cons _ _ _ _ (.nil R)) pk_ (.tmp _ _ rfl) (.tmp _ _ rfl) rfl
  have hnz : 0 < is.length := by omega
  have hc1 : ((is.length - 1 : Nat) : Int) = (is.length : Int) - 1 := by omega
  have hnone : jm is = false → bR is = none := fun h => by unfold bR; rw [h]; simp
  repeat' (first | refine W_ ?_ | refine aE ?_ | refine c_ (fun hc => ?_) (fun hc => ?_) | refine g_ (fun hg => ?_) (fun hg => ?_))
  apply aj (X := Nat) [1, 4, 26, 1000000] (fun i => [(27, .int .i64 (i : Int))]) (fun _ => R) (fun i => i ≤ is.length ∧ (is.take i).all (dv is.length) = true) (fun i => is.length - i) 0 ⟨Nat.zero_le _, rfl⟩
  exact kp_; exact nw_
  · exact .refl _
  rintro i ⟨hi, hall⟩
  try dsimp only
  by_cases hlt : i < is.length
  · have hii : (dQ is)[i]? = some (is[i]).tv := by simp only [dQ, List.getElem?_map]; rw [List.getElem?_eq_getElem hlt]; rfl
    have htk := uS hlt hall
    have hbad := fun h => hnone (xP (p := dv is.length) hlt h)
    have hti := ht _ (List.getElem_mem hlt)
    generalize is[i] = ii at hii hti htk hbad
    obtain ⟨op, a, b, t⟩ := ii
    rw [rF] at htk hbad
    replace hii : (dQ is)[i]? = some [.int .i64 op, .int .i64 a, .int .i64 b, .str t] := hii
    replace hti : t.size ≤ 1048576 := hti
    repeat' (first | refine H_ 8 ?_ | (refine ai ?_; intro ss bb) | refine ad ?_ | refine c_ (fun hc => ?_) (fun hc => ?_) | refine g_ (fun hg => ?_) (fun hg => ?_))
    refine ⟨cE ?_⟩
    generalize ss = s6; generalize bb = b6
    apply fc (X := Unit) [1, 4, 6, 26, 27, 1000000] (fun _ => [(54, .bool (wa op t))]) (fun _ => (s6, b6, .box [.int .i64 op, .int .i64 a, .int .i64 b, .str t]) :: R) (fun _ => True)
    case hk => (repeat (first | exact iO.nil | (apply iO.cons; rfl)))
    · clear hbad htk hall hii ht
      repeat' (first | refine W_ ?_ | refine ab hG hst (aK _ _ _) ?_ | refine ab hG hst (hca _ hti) ?_ | refine c_ (fun hc => ?_) (fun hc => ?_) | refine g_ (fun hg => ?_) (fun hg => ?_))
      all_goals
        refine dN () trivial (.of _ (dw.envCons (i8 rfl ?_) dw.envNil) od_ pk_)
        first
          | (simp [wa, *]; done)
          | (simp [wa, *]; simp [inR]; done)
    intro _ _
    by_cases hb1 : wa op t = true
    · have hd := hbad (by rw [hb1]; rfl)
      rw [hb1, hd]
      repeat' (first | with_reducible refine ch rfl ?_ | ((with_reducible first | apply vd | apply lJ); rfl; rfl) | with_reducible refine cE ?_ | with_reducible refine bJ ?_ | with_reducible refine dX ?_ | with_reducible refine cO ?_ | with_reducible refine bV ?_ | with_reducible refine cS ?_ | with_reducible refine cU ?_ | with_reducible refine ea ?_ | with_reducible refine aY ?_ | with_reducible refine aR rfl ?_ | with_reducible refine aZ ?_ | with_reducible refine ba ?_ | with_reducible refine aX ?_ | with_reducible refine bZ ?_ | refine bM rfl rr_ ?_ | refine bN rfl rr_ ?_ | (refine bw rfl rr_ dd_ ?_) | (refine bz rfl rr_ dd_ ?_) | (refine ee rfl rr_ (fun hc => ?_) (fun hc => ?_)) | (refine cW rfl rr_ (fun hc => ?_) (fun hc => ?_)))
      refine db 2 1 (by omega) rfl fun ss => dp x_ rfl (ss, 0) trivial rfl (.cons _ _ _ _ (.nil R)) pk_ (.tmp _ _ rfl) (.tmp _ _ rfl) rfl
    rw [Bool.not_eq_true] at hb1
    rw [hb1] at htk hbad
    simp only [Bool.not_false, Bool.true_and] at htk hbad
    rw [hb1]
    have hlr := mK op s6 b6
    have hol := rZ op
    repeat' (first | refine W_ ?_ | ((with_reducible apply aF); rfl; kernel_rfl; (repeat (first | exact aD.nil | ((with_reducible apply aD.cons); rfl))); exact hG; exact mZ s6 b6 op a b t; exact .cons _ _ _ _ (.nil _); intro y _; obtain ⟨sl5, bl5⟩ := y; refine xB ?_) | refine c_ (fun hc => ?_) (fun hc => ?_) | refine g_ (fun hg => ?_) (fun hg => ?_))
    apply aj (X := Nat) [1, 4, 26, 27, 55, 56, 1000000] (fun q => [(57, .int .i64 (q : Int))]) (fun _ => (sl5, bl5, .row 1 (uY op s6 b6)) :: (s6, b6, .box [.int .i64 op, .int .i64 a, .int .i64 b, .str t]) :: R) (fun q => q ≤ (cA op).length ∧ ((cA op).take q).all (fun o => inR (oI a b o) 0 ((is.length : Int) - 1)) = true) (fun q => (cA op).length - q) 0 ⟨Nat.zero_le _, rfl⟩
    exact kp_; exact nw_
    · exact .refl _
    rintro q ⟨hq, hqa⟩
    try dsimp only
    by_cases hql : q < (cA op).length
    · have hrow := vo (s := s6) (b := b6) hql
      have hqk := uS hql hqa
      have hqb := fun h => hbad (xP (p := fun o => inR (oI a b o) 0 ((is.length : Int) - 1)) hql h)
      have hmem := oF (List.getElem_mem hql)
      generalize (cA op)[q] = o at hrow hqk hqb hmem
      by_cases hin : inR (oI a b o) 0 ((is.length : Int) - 1) = true
      · have hw : ∀ G, Ct Tryz.prog G 55 [.int .i64 (oI a b o), .int .i64 0, .int .i64 ((is.length - 1 : Nat) : Int)] (fun _ => .bool true) := fun G => by rw [hc1, ← hin]; exact aK _ _ _
        rcases hmem with rfl | rfl
        all_goals
          first | rw [show oI a b 1 = a from rfl] at hw | rw [show oI a b 2 = b from rfl] at hw
          repeat' (first | refine W_ ?_ | refine ab hG hst (hw _) ?_ | refine c_ (fun hc => ?_) (fun hc => ?_) | refine g_ (fun hg => ?_) (fun hg => ?_))
          exact ah (q + 1) ⟨by omega, by rw [hqk, hin]⟩ (by omega) (.of _ nw_ od_ pk_)
      · rw [Bool.not_eq_true] at hin
        have hd := hqb hin
        rw [hd]
        have hw : ∀ G, Ct Tryz.prog G 55 [.int .i64 (oI a b o), .int .i64 0, .int .i64 ((is.length - 1 : Nat) : Int)] (fun _ => .bool false) := fun G => by rw [hc1, ← hin]; exact aK _ _ _
        rcases hmem with rfl | rfl
        all_goals
          first | rw [show oI a b 1 = a from rfl] at hw | rw [show oI a b 2 = b from rfl] at hw
          repeat' (first | refine W_ ?_ | refine ab hG hst (hw _) ?_ | refine c_ (fun hc => ?_) (fun hc => ?_) | refine g_ (fun hg => ?_) (fun hg => ?_))
          refine db 2 1 (by omega) rfl fun ss => dp x_ rfl (ss, 0) trivial rfl (.cons _ _ _ _ (.nil R)) pk_ (.tmp _ _ rfl) (.tmp _ _ rfl) rfl
    · rw [List.take_of_length_le (by omega)] at hqa
      rw [hqa] at htk
      repeat' (first | refine W_ ?_ | refine c_ (fun hc => ?_) (fun hc => ?_) | refine g_ (fun hg => ?_) (fun hg => ?_))
      exact ah (i + 1) ⟨by omega, htk⟩ (by omega) (.of _ nw_ od_ pk_)
  · rw [List.take_of_length_le (by omega)] at hall
    have hd : bR is = qi is (kD is) is.length (0 :: List.replicate (is.length - 1) (-1)) [0] := by
      unfold bR; rw [if_neg hz, if_pos (show jm is = true from hall)]
    have hn1 : 1 ≤ is.length := hnz
    have hset : (aO (List.replicate is.length (-1))).set 0 [.int .i64 0] = aO (0 :: List.replicate (is.length - 1) (-1)) := by
      have e : is.length = (is.length - 1) + 1 := by omega
      rw [e, List.replicate_succ]; rfl
    have hrow0 : (aO (List.replicate is.length (-1)))[0]? = some [.int .i64 (-1)] := by
      have e : is.length = (is.length - 1) + 1 := by omega
      rw [e, List.replicate_succ]; rfl
    have hrep := fun lo => r8 (G := G) lo is.length hn1 hn
    repeat' (first | refine H_ 19 ?_ | refine dA ?_ | refine a6 ?_ | ((with_reducible apply aF); rfl; kernel_rfl; (repeat (first | exact aD.nil | ((with_reducible apply aD.cons); rfl))); exact hG; exact hrep _; exact .nil _; intro y _; obtain ⟨ss, bb⟩ := y; refine br ?_) | refine c_ (fun hc => ?_) (fun hc => ?_) | refine g_ (fun hg => ?_) (fun hg => ?_))
    refine ⟨?_⟩
    generalize ss = sd; generalize bb = bd
    repeat' (first | refine W_ ?_ | (refine lz ?_; intro ss bb) | refine c_ (fun hc => ?_) (fun hc => ?_) | refine g_ (fun hg => ?_) (fun hg => ?_))
    generalize ss = st; generalize bb = bt
    rw [hset]
    have hpo : jm is = true := hall
    clear hset hrow0 hrep hlt hnone hall hi
    apply aj (X := List Int × List Nat × List (List TV) × Nat × Nat) [1, 4, 9, 1000000] (fun x => [(10, .ms st x.2.2.2.1 x.2.2.1.length x.2.1.length)]) (fun x => (st, x.2.2.2.1, .row 1 (x.2.2.1 ++ aO (nts x.2.1))) :: (sd, bd, .row 1 (aO x.1)) :: R)
      (fun x => x.2.2.2.2 ≤ is.length ∧ DSt is.length x.1 x.2.1 x.2.2.2.2 ∧ qi is (kD is) x.2.2.2.2 x.1 x.2.1 = bR is) (fun x => x.2.2.2.2) (0 :: List.replicate (is.length - 1) (-1), [0], [], bt, is.length) ⟨Nat.le_refl _, lM hn1, hd.symm⟩
    exact kp_; exact nw_
    · exact .refl _
    rintro ⟨ds, q, pre, bt, f⟩ ⟨hf, hD, hfl⟩
    dsimp only at hf hD hfl ⊢
    cases q with
    | nil =>
      have hdl := hD.len
      have hd' : bR is = some ds := by rw [← hfl]; simp [qi]
      have h00 : ([] : List Nat).length = 0 := rfl
      rw [hd']
      repeat' (first | refine W_ ?_ | refine c_ (fun hc => ?_) (fun hc => ?_) | refine g_ (fun hg => ?_) (fun hg => ?_))
      refine dp x_ rfl (sd, bd) trivial rfl (.cons _ _ _ _ (.nil R)) pk_ (.tmp _ _ rfl) (.tmp _ _ rfl) (by simp [dR, hdl])
    | cons p q =>
    obtain ⟨j, rfl, hD', hpn, hg0⟩ := hD.pop
    clear hD
    have hlc : (p :: q).length = q.length + 1 := rfl
    rw [hY _ _ _ _ _ hpn] at hfl
    have hrange := hD'.inv.gd (p : Nat)
    have hdl := hD'.len
    have hmu := hD'.mu
    have hgp : (pre ++ aO (nts (p :: q)))[pre.length + 0]? = some [.int .i64 (p : Int)] := by
      rw [Nat.add_zero, List.getElem?_append_right (Nat.le_refl _), Nat.sub_self]; rfl
    have hdi : (aO ds)[p]? = some [.int .i64 (gd ds (p : Nat))] := by
      have h9 := oe (ds := ds) (p := p) (by omega)
      simp only [aO, List.getElem?_map]
      rw [List.getElem?_eq_getElem (by omega), h9]; rfl
    have hii : (dQ is)[p]? = some (is[p]).tv := by simp only [dQ, List.getElem?_map]; rw [List.getElem?_eq_getElem hpn]; rfl
    have hpi : dv is.length is[p] = true := List.all_eq_true.1 hpo _ (List.getElem_mem _)
    have hti := ht _ (List.getElem_mem hpn)
    generalize is[p] = ii at hfl hii hpi hti
    obtain ⟨op, a, b, t⟩ := ii
    replace hti : t.size ≤ 1048576 := hti
    have her := ij ⟨op, a, b, t⟩
    have hop : inR op 1 26 = true := by simp only [dv, Bool.and_eq_true] at hpi; exact hpi.1.1
    have hef := rV hst hca op a b t hti hop
    have hnx := abU hst hca op a b t p (gd ds p) hti hop (by omega) ⟨hg0, hrange.2⟩
    replace hii : (dQ is)[p]? = some [.int .i64 op, .int .i64 a, .int .i64 b, .str t] := hii
    have hstep : kD is ⟨op, a, b, t⟩ p ds = if gd ds p < (ag.eff ⟨op, a, b, t⟩).1 then none else if (ag.labs ⟨op, a, b, t⟩).any (fY is p op) then none else fK is.length (ag.nexts ⟨op, a, b, t⟩ p (gd ds p)) (ds, []) := rfl
    rw [hstep, qn, List.any_map] at hfl
    clear hstep
    have hpi0 := hpi
    rw [rF, Bool.and_eq_true] at hpi
    have hlb := hpi.2
    clear hpi
    have hn0 : ¬ gd ds p < (ag.eff ⟨op, a, b, t⟩).1 → ∀ x ∈ ag.nexts ⟨op, a, b, t⟩ p (gd ds p), 0 ≤ x.2 := fun h => fA ⟨op, a, b, t⟩ p (gd ds p) hg0 h fun h14 => by
      have := hpi0
      simp only [dv, Bool.and_eq_true] at this
      have h3 := this.1.2
      simp [show op = 14 from h14] at h3
      simp [ag.eff, show op = 14 from h14]; exact h3
    clear hpi0
    have hnl := rX ⟨op, a, b, t⟩ p (gd ds p)
    generalize ag.nexts ⟨op, a, b, t⟩ p (gd ds p) = L at *
    generalize (ag.eff ⟨op, a, b, t⟩).1 = e1 at *
    generalize (ag.eff ⟨op, a, b, t⟩).2 = e2 at *
    generalize hgg : gd ds (p : Int) = g at *
    by_cases hlt : g < e1
    · rw [if_pos hlt] at hfl
      rw [← hfl]
      repeat' (first | refine W_ ?_ | refine aa8 ?_ | (refine ai ?_; intro ss bb) | refine ad ?_ | refine ab hG hst (hef) ?_ | refine c_ (fun hc => ?_) (fun hc => ?_) | refine g_ (fun hg => ?_) (fun hg => ?_))
      refine db 2 1 (by omega) rfl fun ss => dp x_ rfl (ss, 0) trivial rfl (.cons _ _ _ _ (.nil R)) pk_ (.tmp _ _ rfl) (.tmp _ _ rfl) rfl
    rw [if_neg hlt] at hfl
    replace hn0 := hn0 hlt
    have hlr := fun s b => mK op s b
    have hol := rZ op
    repeat' (first | refine W_ ?_ | refine aa8 ?_ | (refine ai ?_; intro ss bb) | refine ad ?_ | refine ab hG hst (hef) ?_ | ((with_reducible apply aF); rfl; kernel_rfl; (repeat (first | exact aD.nil | ((with_reducible apply aD.cons); rfl))); exact hG; exact mZ ss bb op a b t; exact .cons _ _ _ _ (.nil _); intro y _; obtain ⟨sl5, bl5⟩ := y; refine xB ?_) | refine c_ (fun hc => ?_) (fun hc => ?_) | refine g_ (fun hg => ?_) (fun hg => ?_))
    generalize ss = s6; generalize bb = b6
    have hlr6 := hlr s6 b6
    clear hlr
    apply aj (X := Nat) [1, 4, 9, 11, 12, 100, 101, 1000000] (fun k => [(102, .int .i64 (k : Int)), (10, .ms st bt (pre ++ [[TV.int .i64 (p : Int)]]).length q.length)]) (fun _ => (sl5, bl5, .row 1 (uY op s6 b6)) :: (s6, b6, .box [.int .i64 op, .int .i64 a, .int .i64 b, .str t]) :: (st, bt, .row 1 ((pre ++ [[TV.int .i64 (p : Int)]]) ++ aO (nts q))) :: (sd, bd, .row 1 (aO ds)) :: R)
      (fun k => k ≤ (cA op).length ∧ ((cA op).take k).any (fY is p op ∘ oI a b) = false) (fun k => (cA op).length - k) 0 ⟨Nat.zero_le _, rfl⟩
    (repeat (first | exact iO.nil | (apply iO.cons; rfl)))
    · (repeat (first | exact dw.envNil | refine dw.envCons (by first | rfl | exact acv rfl (by simp) (by simp)) ?_))
    · refine .cons (.head _) (.cons (.head _) ?_)
      rw [List.append_assoc]
      exact .refl _
    have hpr : (pre ++ [[TV.int .i64 (p : Int)]]).length = pre.length + 1 := by simp
    generalize pre ++ [[TV.int .i64 (p : Int)]] = pre1 at *
    rintro k ⟨hk, hka⟩
    try dsimp only
    by_cases hkl : k < (cA op).length
    · have hrow := vo (s := s6) (b := b6) hkl
      have hkk : ((cA op).take (k + 1)).any (fY is p op ∘ oI a b) = (fY is p op ∘ oI a b) (cA op)[k] := by
        rw [List.take_add_one, List.any_append, hka, List.getElem?_eq_getElem hkl]; simp
      have hkb : (fY is p op ∘ oI a b) (cA op)[k] = true → (cA op).any (fY is p op ∘ oI a b) = true := fun h => List.any_eq_true.2 ⟨_, List.getElem_mem hkl, h⟩
      have hmem := oF (List.getElem_mem hkl)
      have hin := List.all_eq_true.1 hlb _ (List.getElem_mem hkl)
      generalize (cA op)[k] = o at hrow hkk hkb hmem hin
      dsimp only [Function.comp] at hkk hkb
      simp only [inR, decide_eq_true_eq] at hin
      obtain ⟨vn, hvn⟩ : ∃ vn : Nat, oI a b o = (vn : Int) := ⟨(oI a b o).toNat, by omega⟩
      rw [hvn] at hkk hkb hin
      have hvl : vn < is.length := by omega
      repeat' (first | refine H_ 30 ?_ | refine c_ (fun hc => ?_) (fun hc => ?_) | refine g_ (fun hg => ?_) (fun hg => ?_))
      refine ⟨cE ?_⟩
      apply fc (X := Unit) [1, 4, 9, 10, 11, 12, 100, 101, 102, 1000000] (fun _ => [(126, .bool (fY is p op (vn : Int)))]) (fun _ => (sl5, bl5, .row 1 (uY op s6 b6)) :: (s6, b6, .box [.int .i64 op, .int .i64 a, .int .i64 b, .str t]) :: (st, bt, .row 1 (pre1 ++ aO (nts q))) :: (sd, bd, .row 1 (aO ds)) :: R) (fun _ => True)
      case hk => (repeat (first | exact iO.nil | (apply iO.cons; rfl)))
      · have hri : (dQ is)[vn]? = some (is[vn]).tv := by simp only [dQ, List.getElem?_map]; rw [List.getElem?_eq_getElem hvl]; rfl
        have hoa : acI is (vn : Int) = is[vn].op := by simp [acI, hvl]
        clear hkk hkb hka hlb hfl hnx hef hpo ht
        generalize is[vn] = iu at hri hoa
        obtain ⟨op', a', b', t'⟩ := iu
        replace hri : (dQ is)[vn]? = some [.int .i64 op', .int .i64 a', .int .i64 b', .str t'] := hri
        have hbs : fY is p op (vn : Int) = (!decide (op = 26) && decide ((vn : Int) ≤ p) && !decide (op' = 23)) := by simp [fY, hoa]
        rw [hbs]
        have hw3 : op = 26 ∨ (¬ op = 26 ∧ (vn : Int) ≤ p) ∨ (¬ op = 26 ∧ ¬ (vn : Int) ≤ p) := by omega
        rcases hmem with rfl | rfl
        all_goals
          first
            | obtain rfl : a = (vn : Int) := hvn
            | obtain rfl : b = (vn : Int) := hvn
          rcases hw3 with h26 | ⟨h26, hle⟩ | ⟨h26, hle⟩
          all_goals
            repeat' (first | refine V_ ?_ | refine c_ (fun hc => ?_) (fun hc => ?_) | refine g_ (fun hg => ?_) (fun hg => ?_))
            refine dN () trivial (.of _ nw_ od_ pk_)
      · intro _ _
        by_cases hbk : fY is p op (vn : Int) = true
        · rw [hkb hbk, if_pos rfl] at hfl
          rw [hbk, ← hfl]
          repeat' (first | with_reducible refine ch rfl ?_ | ((with_reducible first | apply vd | apply lJ); rfl; rfl) | with_reducible refine cE ?_ | with_reducible refine bJ ?_ | with_reducible refine dX ?_ | with_reducible refine cO ?_ | with_reducible refine bV ?_ | with_reducible refine cS ?_ | with_reducible refine cU ?_ | with_reducible refine ea ?_ | with_reducible refine aY ?_ | with_reducible refine aR rfl ?_ | with_reducible refine aZ ?_ | with_reducible refine ba ?_ | with_reducible refine aX ?_ | with_reducible refine bZ ?_ | refine bM rfl rr_ ?_ | refine bN rfl rr_ ?_ | (refine bw rfl rr_ dd_ ?_) | (refine bz rfl rr_ dd_ ?_) | (refine ee rfl rr_ (fun hc => ?_) (fun hc => ?_)) | (refine cW rfl rr_ (fun hc => ?_) (fun hc => ?_)))
          refine db 2 1 (by omega) rfl fun ss => dp x_ rfl (ss, 0) trivial rfl (.cons _ _ _ _ (.nil R)) pk_ (.tmp _ _ rfl) (.tmp _ _ rfl) rfl
        · rw [Bool.not_eq_true] at hbk
          rw [hbk]
          repeat' (first | refine W_ ?_ | refine c_ (fun hc => ?_) (fun hc => ?_) | refine g_ (fun hg => ?_) (fun hg => ?_))
          exact ah (k + 1) ⟨by omega, by rw [hkk, hbk]⟩ (by omega) (.of _ nw_ od_ pk_)
    · rw [List.take_of_length_le (by omega)] at hka
      rw [hka, if_neg (by simp)] at hfl
      repeat' (first | refine V_ ?_ | refine ac hG hst (hnx) ?_ | refine c_ (fun hc => ?_) (fun hc => ?_) | refine g_ (fun hg => ?_) (fun hg => ?_))
      clear hka hlb hef hnx hmu
      apply aj (X := Nat × List Int × List Nat × Nat × List (List TV)) [1, 4, 9, 134, 135, 1000000] (fun x => [(136, .int .i64 (x.1 : Int)), (10, .ms st x.2.2.2.1 x.2.2.2.2.length (q.length + x.2.2.1.length))])
        (fun x => (st, x.2.2.2.1, .row 1 (x.2.2.2.2 ++ aO (nts (q ++ x.2.2.1)))) :: (sd, bd, .row 1 (aO x.2.1)) :: R)
        (fun x => x.1 ≤ L.length ∧ x.2.1.length = is.length ∧ x.2.2.1.length ≤ x.1 ∧ fK is.length (L.drop x.1) (x.2.1, x.2.2.1) = fK is.length L (ds, [])) (fun x => L.length - x.1) (0, ds, [], bt, pre1) ⟨Nat.zero_le _, hdl, Nat.zero_le _, rfl⟩
      exact kp_; exact nw_
      · rw [List.append_nil]; exact pk_
      rintro ⟨k, ds', new, bt', pre'⟩ ⟨hk, hdl', hnw, hpu⟩
      dsimp only at hk hdl' hnw hpu ⊢
      have hqf : q.length ≤ is.length := by have := hD'.mu; omega
      by_cases hkl : k < L.length
      · rw [List.drop_eq_getElem_cons hkl] at hpu
        have hrow : (plR L)[k]? = some [.int .i64 L[k].1, .int .i64 L[k].2] := by simp [plR, hkl]
        generalize L[k] = uv at hpu hrow
        obtain ⟨u, v⟩ := uv
        dsimp only at hrow
        rw [wj] at hpu
        repeat' (first | ((with_reducible apply o_y); exact y_; rfl) | (refine ai ?_; intro ss bb) | refine ad ?_ | with_reducible refine qV (id := 10) ?_  | with_reducible refine ch rfl ?_ | (with_reducible first | apply cE | apply bJ | apply dX | apply cO | apply bV | apply cS | apply cU | apply ea | apply aY | apply (aR rfl) | apply aZ | apply ba | apply aX | apply bZ) | refine ff rfl rfl rfl rr_ ?_ | refine dH rfl rfl rfl rr_ rfl rfl rfl ?_ | refine cT rfl rfl rfl rr_ rfl rfl ?_ | (refine jo rfl rfl rfl rr_ dd_ ?_) | (refine jd rfl rfl rfl rr_ dd_ ?_) | (refine dy rfl rfl rfl rr_ (fun hg => ?_) (fun hg => ?_)) | (refine dn rfl rfl rfl rr_ (fun hg => ?_) (fun hg => ?_)) | refine bM rfl rr_ ?_ | refine bN rfl rr_ ?_ | (refine bw rfl rr_ dd_ ?_) | (refine bz rfl rr_ dd_ ?_) | (refine ee rfl rr_ (fun hc => ?_) (fun hc => ?_)) | (refine cW rfl rr_ (fun hc => ?_) (fun hc => ?_)))
        refine ⟨bV (cE ?_)⟩
        generalize ss = s8; generalize bb = b8
        apply fc (X := Unit) [1, 4, 9, 10, 18, 134, 135, 136, 1000000] (fun _ => [(140, .bool (sK is.length ds' u v))]) (fun _ => (s8, b8, .box [.int .i64 u, .int .i64 v]) :: (st, bt', .row 1 (pre' ++ aO (nts (q ++ new)))) :: (sd, bd, .row 1 (aO ds')) :: R) (fun _ => True)
        case hk => (repeat (first | exact iO.nil | (apply iO.cons; rfl)))
        · clear hpu hfl hn0 hpo ht
          by_cases hin : inR u 0 ((is.length : Int) - 1) = true
          · have hw : ∀ G, Ct Tryz.prog G 55 [.int .i64 u, .int .i64 0, .int .i64 ((is.length - 1 : Nat) : Int)] (fun _ => .bool true) := fun G => by rw [hc1, ← hin]; exact aK _ _ _
            have hin2 : 0 ≤ u ∧ u ≤ (is.length : Int) - 1 := by simpa [inR] using hin
            obtain ⟨un, rfl⟩ : ∃ un : Nat, u = (un : Int) := ⟨u.toNat, by omega⟩
            have hun : un < is.length := by omega
            have hrd : (aO ds')[un]? = some [.int .i64 (gd ds' (un : Int))] := by
              have h9 := oe (ds := ds') (p := un) (by omega)
              simp only [aO, List.getElem?_map]
              rw [List.getElem?_eq_getElem (by omega), h9]; rfl
            have hbs : sK is.length ds' (un : Int) v = (decide (250 < v) || (decide (0 ≤ gd ds' (un : Int)) && !decide (gd ds' (un : Int) = v))) := by simp [sK, hin]
            rw [hbs]
            generalize gd ds' (un : Int) = gv at hrd ⊢
            have hw3 : 250 < v ∨ (¬ 250 < v ∧ 0 ≤ gv) ∨ (¬ 250 < v ∧ ¬ 0 ≤ gv) := by omega
            rcases hw3 with h250 | ⟨h250, hg0'⟩ | ⟨h250, hg0'⟩
            all_goals
              repeat' (first | refine V_ ?_ | refine ac hG hst (hw _) ?_ | refine c_ (fun hc => ?_) (fun hc => ?_) | refine g_ (fun hg => ?_) (fun hg => ?_))
              refine dN () trivial (.of _ (dw.envCons (i8 rfl (by simp [*])) dw.envNil) od_ pk_)
          · rw [Bool.not_eq_true] at hin
            have hw : ∀ G, Ct Tryz.prog G 55 [.int .i64 u, .int .i64 0, .int .i64 ((is.length - 1 : Nat) : Int)] (fun _ => .bool false) := fun G => by rw [hc1, ← hin]; exact aK _ _ _
            have hbs : sK is.length ds' u v = true := by simp [sK, hin]
            rw [hbs]
            repeat' (first | refine V_ ?_ | refine ac hG hst (hw _) ?_ | refine c_ (fun hc => ?_) (fun hc => ?_) | refine g_ (fun hg => ?_) (fun hg => ?_))
            refine dN () trivial (.of _ nw_ od_ pk_)
        · intro _ _
          by_cases hb : sK is.length ds' u v = true
          · rw [if_pos hb] at hpu
            rw [← hpu] at hfl
            dsimp only at hfl
            rw [hb, ← hfl]
            repeat' (first | with_reducible refine ch rfl ?_ | ((with_reducible first | apply vd | apply lJ); rfl; rfl) | with_reducible refine cE ?_ | with_reducible refine bJ ?_ | with_reducible refine dX ?_ | with_reducible refine cO ?_ | with_reducible refine bV ?_ | with_reducible refine cS ?_ | with_reducible refine cU ?_ | with_reducible refine ea ?_ | with_reducible refine aY ?_ | with_reducible refine aR rfl ?_ | with_reducible refine aZ ?_ | with_reducible refine ba ?_ | with_reducible refine aX ?_ | with_reducible refine bZ ?_ | refine bM rfl rr_ ?_ | refine bN rfl rr_ ?_ | (refine bw rfl rr_ dd_ ?_) | (refine bz rfl rr_ dd_ ?_) | (refine ee rfl rr_ (fun hc => ?_) (fun hc => ?_)) | (refine cW rfl rr_ (fun hc => ?_) (fun hc => ?_)))
            refine db 2 1 (by omega) rfl fun ss => dp x_ rfl (ss, 0) trivial rfl (.cons _ _ _ _ (.nil R)) pk_ (.tmp _ _ rfl) (.tmp _ _ rfl) rfl
          · rw [if_neg hb] at hpu
            have hin : inR u 0 ((is.length : Int) - 1) = true := by
              cases h : inR u 0 ((is.length : Int) - 1)
              · exact absurd (by simp [sK, h]) hb
              · rfl
            rw [Bool.not_eq_true] at hb
            rw [hb]
            have hin2 : 0 ≤ u ∧ u ≤ (is.length : Int) - 1 := by simpa [inR] using hin
            obtain ⟨un, rfl⟩ : ∃ un : Nat, u = (un : Int) := ⟨u.toNat, by omega⟩
            have hun : un < is.length := by omega
            have hrd : (aO ds')[un]? = some [.int .i64 (gd ds' (un : Int))] := by
              have h9 := oe (ds := ds') (p := un) (by omega)
              simp only [aO, List.getElem?_map]
              rw [List.getElem?_eq_getElem (by omega), h9]; rfl
            have hrl : pre'.length + (q.length + new.length) ≤ (pre' ++ aO (nts (q ++ new))).length := by simp [aO, nts]
            have hlive : ((pre' ++ aO (nts (q ++ new))).drop pre'.length).take (q.length + new.length) = aO (nts (q ++ new)) := by
              rw [List.drop_left, List.take_of_length_le (by simp [aO, nts])]
            by_cases hgn : gd ds' (un : Int) < 0
            · rw [if_pos hgn] at hpu
              have hset : (aO ds').set un [.int .i64 v] = aO (ds'.set un v) := pR ds' un v
              repeat' (first | refine W_ ?_ | refine a6 ?_ | refine dA ?_ | (refine acq ?_; intro bb pp) | refine c_ (fun hc => ?_) (fun hc => ?_) | refine g_ (fun hg => ?_) (fun hg => ?_))
              refine ah (k + 1, ds'.set un v, new ++ [un], bb, pp) ⟨by dsimp only; omega, by simp [hdl'], by simp; omega, by dsimp only; rw [← hpu]; rfl⟩ (by dsimp only; omega) (.of _ nw_ od_ pk_)
            · rw [if_neg hgn] at hpu
              repeat' (first | refine W_ ?_ | refine c_ (fun hc => ?_) (fun hc => ?_) | refine g_ (fun hg => ?_) (fun hg => ?_))
              refine ah (k + 1, ds', new, bt', pre') ⟨by dsimp only; omega, hdl', by dsimp only; omega, by dsimp only; exact hpu⟩ (by dsimp only; omega) (.of _ nw_ od_ pk_)
      · rw [List.drop_of_length_le (by omega)] at hpu
        rw [← hpu] at hfl
        dsimp only [fK] at hfl
        repeat' (first | refine W_ ?_ | refine c_ (fun hc => ?_) (fun hc => ?_) | refine g_ (fun hg => ?_) (fun hg => ?_))
        refine ah (ds', q ++ new, pre', bt', j) ⟨by dsimp only; omega, ?_, by dsimp only; exact hfl⟩ (by dsimp only; omega) (.of _ nw_ od_ pk_)
        dsimp only
        exact iK L ds q [] (ds', new) hn0 (by rw [List.append_nil]; exact hD') hpu.symm
end Go.Proofs.YtiihihgjiklnoaaGreatDoor
