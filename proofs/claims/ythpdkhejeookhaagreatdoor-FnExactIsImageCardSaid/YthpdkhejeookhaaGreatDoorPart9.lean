/- Part 9 of the proof: the texts SdF, IvQ, IvR, IvF, IvT. -/
import Derived.Test.YthpdkhejeookhaaGreatDoorPart6
import Derived.Test.YthpdkhejeookhaaGreatDoorPart8
import Derived.Test.YthpdkhejeookhaaGreatDoorPart5
/- StackDepths by the engine: the program's StackDepths: what is asked of the instructions one by one. -/
namespace Go.Proofs.YthpdkhejeookhaaGreatDoor
set_option maxRecDepth 20000
open Go Go.RowKit
theorem lz {op : Int} {o : Nat} (h : o ∈ cr op) : o = 1 ∨ o = 2 := by
  unfold cr at h
  repeat' split at h
  all_goals first
    | (simp at h; done)
    | (simp at h; omega)
    | skip
theorem nN (op : Int) : (cr op).length ≤ 2 := by
  unfold cr
  repeat' split
  all_goals simp
theorem ky (op : Int) (s b : Nat) : (rl op s b).length = (cr op).length := by simp [rl]
theorem qV {op : Int} {s b q : Nat} (h : q < (cr op).length) : (rl op s b)[q]? = some [.mp s b (cr op)[q]] := by simp [rl, h]
def lG (a b : Int) (o : Nat) : Int := if o = 1 then a else b
theorem mr (op a b : Int) (t : ByteArray) : aD.labs ⟨op, a, b, t⟩ = (cr op).map (lG a b) := xg op a b t
theorem q4 {α : Type} {p : α → Bool} {l : List α} {q : Nat} (h : q < l.length) (ha : (l.take q).all p = true) : (l.take (q + 1)).all p = p l[q] := by
  rw [List.take_add_one, List.all_append, ha, List.getElem?_eq_getElem h]; simp
theorem tp {α : Type} {p : α → Bool} {l : List α} {q : Nat} (h : q < l.length) (hb : p l[q] = false) : l.all p = false := by
  rw [List.all_eq_false]; exact ⟨_, List.getElem_mem h, by rw [hb]; simp⟩
theorem sw (n : Nat) (p d : Int) (r : List (Int × Int)) (ds : List Int) (q : List Nat) : eT n ((p, d) :: r) (ds, q) = if pl n ds p d then none else if gd ds p < 0 then eT n r (ds.set p.toNat d, q ++ [p.toNat]) else eT n r (ds, q) := rfl
def sD (op : Int) (t : ByteArray) : Bool := !inR op 1 26 || ((decide (op = 13) || decide (op = 14)) && decide (bS t.data.toList < 0))
theorem pi (n : Nat) (op a b : Int) (t : ByteArray) : cU n ⟨op, a, b, t⟩ = (!sD op t && ((cr op).all fun o => inR (lG a b o) 0 ((n : Int) - 1))) := by
  unfold cU sD
  rw [mr, List.all_map]
  have h1 : decide (0 ≤ bS t.data.toList) = !decide (bS t.data.toList < 0) := by
    rw [← decide_not]; exact decide_eq_decide.2 (by omega)
  rw [h1]
  cases inR op 1 26 <;> cases decide (op = 13) <;> cases decide (op = 14) <;> cases decide (bS t.data.toList < 0) <;> rfl

set_option maxRecDepth 4000 in
set_option maxHeartbeats 4000000 in
theorem gz {G : World → Prop} (hst : aY G) (hca : ∀ s : ByteArray, s.size ≤ 1048576 → Ct Tryz.prog G 119 [.str s] (fun _ => .int .i64 (bS s.data.toList)))
    (l2 : Nat) (bl : Bool) (pr sl : Int) (is : List aD) (hn : is.length ≤ 1048576) (ht : ∀ i ∈ is, i.text.size ≤ 1048576) :
    CtM Tryz.prog G 58 [.agg [.bool bl, .int .i64 pr, .int .i64 sl, .sl l2 4 (df is)]] [] (fun _ : Nat × Nat => True) (dO (bP is)) (dR (bP is)) := by
  refine bB Tryz.func58 rfl Tryz.ntmps58 rfl rfl rfl fun w0 R gs objsR hG hR => ?_
  obtain rfl := hR.inv0
  clear hR
  have hlen := gZ is
  by_cases hz : is.length = 0
  · have hd : bP is = none := by unfold bP; rw [if_pos hz]
    rw [hd]
    repeat' (first | ((with_reducible apply o_y); exact y_; rfl) | refine bf ?_ | with_reducible refine ab rfl ?_ | (with_reducible first | apply ag | apply aa | apply ah | apply ac | apply au | apply ad) | (refine ae rfl rr_ dd_ ?_))
    refine dG 2 1 (by omega) rfl fun ss => cT x_ rfl (ss, 0) trivial rfl (.cons _ _ _ _ (.nil R)) pk_ (.tmp _ _ rfl) (.tmp _ _ rfl) rfl
  have hnz : 0 < is.length := by omega
  have hc1 : ((is.length - 1 : Nat) : Int) = (is.length : Int) - 1 := by omega
  have hnone : gO is = false → bP is = none := fun h => by unfold bP; rw [h]; simp
  repeat' (first | ((with_reducible apply o_y); exact y_; rfl) | refine bf ?_ | with_reducible refine ab rfl ?_ | (with_reducible first | apply ag | apply aa | apply ah | apply ac | apply ai | apply ap) | (refine aj rfl rr_ dd_ ?_))
  apply aK (X := Nat) [1, 4, 26, 1000000] (fun i => [(27, .int .i64 (i : Int))]) (fun _ => R) (fun i => i ≤ is.length ∧ (is.take i).all (cU is.length) = true) (fun i => is.length - i) 0 ⟨Nat.zero_le _, rfl⟩
  exact kp_; (repeat (first | exact bj.envNil | refine bj.envCons we_ ?_))
  · exact .refl _
  rintro i ⟨hi, hall⟩
  try dsimp only
  by_cases hlt : i < is.length
  · have hii : (df is)[i]? = some (is[i]).tv := by simp only [df, List.getElem?_map]; rw [List.getElem?_eq_getElem hlt]; rfl
    have htk := q4 hlt hall
    have hbad := fun h => hnone (tp (p := cU is.length) hlt h)
    have hti := ht _ (List.getElem_mem hlt)
    generalize is[i] = ii at hii hti htk hbad
    obtain ⟨op, a, b, t⟩ := ii
    rw [pi] at htk hbad
    replace hii : (df is)[i]? = some [.int .i64 op, .int .i64 a, .int .i64 b, .str t] := hii
    replace hti : t.size ≤ 1048576 := hti
    repeat' (first | ((with_reducible apply o_y); exact y_; rfl) | (refine aI ?_; intro ss bb) | refine aA ?_ | with_reducible refine bx (id := 8) ?_ | with_reducible refine ab rfl ?_ | (with_reducible first | apply ag | apply aa | apply ah | apply ac | apply ai | apply ap) | (refine ae rfl rr_ dd_ ?_))
    refine ⟨ag ?_⟩
    generalize ss = s6; generalize bb = b6
    apply en (X := Unit) [1, 4, 6, 26, 27, 1000000] (fun _ => [(54, .bool (sD op t))]) (fun _ => (s6, b6, .box [.int .i64 op, .int .i64 a, .int .i64 b, .str t]) :: R) (fun _ => True)
    case hk => (repeat (first | exact gn.nil | (apply gn.cons; rfl)))
    · clear hbad htk hall hii ht
      repeat' (first | ((with_reducible apply o_y); exact y_; rfl) | refine aw hG hst (a7 _ _ _) ?_ | refine aw hG hst (hca _ hti) ?_ | with_reducible refine ab rfl ?_ | (with_reducible first | apply aa | apply ah) | refine aP rfl rfl rfl rr_ ?_ | refine aO rfl rfl rfl rr_ rfl rfl rfl ?_ | refine dK rfl rfl rfl rr_ rfl rfl ?_ | (refine bm rfl rfl rfl rr_ (fun hg => ?_) (fun hg => ?_)) | (refine bV rfl rfl rfl rr_ (fun hg => ?_) (fun hg => ?_)))
      all_goals
        refine dh () trivial (.of _ (bj.envCons (fN rfl ?_) bj.envNil) od_ pk_)
        first
          | (simp [sD, *]; done)
          | (simp [sD, *]; simp [inR]; done)
    intro _ _
    by_cases hb1 : sD op t = true
    · have hd := hbad (by rw [hb1]; rfl)
      rw [hb1, hd]
      repeat' (first | with_reducible refine ab rfl ?_ | ((with_reducible apply jR); rfl; rfl) | with_reducible refine ag ?_ | with_reducible refine aa ?_ | with_reducible refine ah ?_ | with_reducible refine ac ?_ | with_reducible refine au ?_ | with_reducible refine ad ?_ | with_reducible refine ak ?_ | refine av rfl rr_ ?_)
      refine dG 2 1 (by omega) rfl fun ss => cT x_ rfl (ss, 0) trivial rfl (.cons _ _ _ _ (.nil R)) pk_ (.tmp _ _ rfl) (.tmp _ _ rfl) rfl
    rw [Bool.not_eq_true] at hb1
    rw [hb1] at htk hbad
    simp only [Bool.not_false, Bool.true_and] at htk hbad
    rw [hb1]
    have hlr := ky op s6 b6
    have hol := nN op
    repeat' (first | ((with_reducible apply o_y); exact y_; rfl) | ((with_reducible apply bE); rfl; kernel_rfl; (repeat (first | exact bA.nil | ((with_reducible apply bA.cons); rfl))); exact hG; exact kz s6 b6 op a b t; exact .cons _ _ _ _ (.nil _); intro y _; obtain ⟨sl5, bl5⟩ := y; refine uy ?_) | with_reducible refine ab rfl ?_ | (with_reducible first | apply ag | apply aa | apply ah | apply ac | apply ai | apply ap) | refine az rfl rr_ ?_)
    apply aK (X := Nat) [1, 4, 26, 27, 55, 56, 1000000] (fun q => [(57, .int .i64 (q : Int))]) (fun _ => (sl5, bl5, .row 1 (rl op s6 b6)) :: (s6, b6, .box [.int .i64 op, .int .i64 a, .int .i64 b, .str t]) :: R) (fun q => q ≤ (cr op).length ∧ ((cr op).take q).all (fun o => inR (lG a b o) 0 ((is.length : Int) - 1)) = true) (fun q => (cr op).length - q) 0 ⟨Nat.zero_le _, rfl⟩
    exact kp_; (repeat (first | exact bj.envNil | refine bj.envCons we_ ?_))
    · exact .refl _
    rintro q ⟨hq, hqa⟩
    try dsimp only
    by_cases hql : q < (cr op).length
    · have hrow := qV (s := s6) (b := b6) hql
      have hqk := q4 hql hqa
      have hqb := fun h => hbad (tp (p := fun o => inR (lG a b o) 0 ((is.length : Int) - 1)) hql h)
      have hmem := lz (List.getElem_mem hql)
      generalize (cr op)[q] = o at hrow hqk hqb hmem
      by_cases hin : inR (lG a b o) 0 ((is.length : Int) - 1) = true
      · have hw : ∀ G, Ct Tryz.prog G 57 [.int .i64 (lG a b o), .int .i64 0, .int .i64 ((is.length - 1 : Nat) : Int)] (fun _ => .bool true) := fun G => by rw [hc1, ← hin]; exact a7 _ _ _
        rcases hmem with rfl | rfl
        all_goals
          first | rw [show lG a b 1 = a from rfl] at hw | rw [show lG a b 2 = b from rfl] at hw
          repeat' (first | ((with_reducible apply o_y); exact y_; rfl) | refine aw hG hst (hw _) ?_ | with_reducible refine ab rfl ?_ | (with_reducible first | apply ag | apply aa | apply ah | apply ac | apply ai | apply ap | apply aB) | refine az rfl rr_ ?_ | (refine ae rfl rr_ dd_ ?_))
          exact aG (q + 1) ⟨by omega, by rw [hqk, hin]⟩ (by omega) (.of _ nw_ od_ pk_)
      · rw [Bool.not_eq_true] at hin
        have hd := hqb hin
        rw [hd]
        have hw : ∀ G, Ct Tryz.prog G 57 [.int .i64 (lG a b o), .int .i64 0, .int .i64 ((is.length - 1 : Nat) : Int)] (fun _ => .bool false) := fun G => by rw [hc1, ← hin]; exact a7 _ _ _
        rcases hmem with rfl | rfl
        all_goals
          first | rw [show lG a b 1 = a from rfl] at hw | rw [show lG a b 2 = b from rfl] at hw
          repeat' (first | ((with_reducible apply o_y); exact y_; rfl) | refine aw hG hst (hw _) ?_ | with_reducible refine ab rfl ?_ | (with_reducible first | apply ag | apply aa | apply ah | apply ac | apply ai | apply ap | apply au | apply ad | apply ak) | refine av rfl rr_ ?_ | (refine ae rfl rr_ dd_ ?_))
          refine dG 2 1 (by omega) rfl fun ss => cT x_ rfl (ss, 0) trivial rfl (.cons _ _ _ _ (.nil R)) pk_ (.tmp _ _ rfl) (.tmp _ _ rfl) rfl
    · rw [List.take_of_length_le (by omega)] at hqa
      rw [hqa] at htk
      repeat' (first | ((with_reducible apply o_y); exact y_; rfl) | with_reducible refine ab rfl ?_ | (with_reducible first | apply ag | apply aa | apply ah | apply ac | apply aH | apply ar | apply aq | apply aB) | (refine aj rfl rr_ dd_ ?_))
      exact aG (i + 1) ⟨by omega, htk⟩ (by omega) (.of _ nw_ od_ pk_)
  · rw [List.take_of_length_le (by omega)] at hall
    have hd : bP is = nj is (iW is) is.length (0 :: List.replicate (is.length - 1) (-1)) [0] := by
      unfold bP; rw [if_neg hz, if_pos (show gO is = true from hall)]
    have hn1 : 1 ≤ is.length := hnz
    have hset : (bv (List.replicate is.length (-1))).set 0 [.int .i64 0] = bv (0 :: List.replicate (is.length - 1) (-1)) := by
      have e : is.length = (is.length - 1) + 1 := by omega
      rw [e, List.replicate_succ]; rfl
    have hrow0 : (bv (List.replicate is.length (-1)))[0]? = some [.int .i64 (-1)] := by
      have e : is.length = (is.length - 1) + 1 := by omega
      rw [e, List.replicate_succ]; rfl
    have hrep := fun lo => oV (G := G) lo is.length hn1 hn
    repeat' (first | ((with_reducible apply o_y); exact y_; rfl) | refine dk ?_ | refine cE ?_ | ((with_reducible apply bE); rfl; kernel_rfl; (repeat (first | exact bA.nil | ((with_reducible apply bA.cons); rfl))); exact hG; exact hrep _; exact .nil _; intro y _; obtain ⟨ss, bb⟩ := y; refine eb ?_) | with_reducible refine bx (id := 19) ?_ | with_reducible refine ab rfl ?_ | (with_reducible first | apply ag | apply aa | apply ah | apply ac | apply aH | apply ar | apply aq) | (refine aj rfl rr_ dd_ ?_))
    refine ⟨?_⟩
    generalize ss = sd; generalize bb = bd
    repeat' (first | ((with_reducible apply o_y); exact y_; rfl) | (refine la ?_; intro ss bb) | with_reducible refine ab rfl ?_ | (with_reducible first | apply ag | apply aa | apply ah | apply ac | apply ai))
    generalize ss = st; generalize bb = bt
    rw [hset]
    have hpo : gO is = true := hall
    clear hset hrow0 hrep hlt hnone hall hi
    apply aK (X := List Int × List Nat × List (List TV) × Nat × Nat) [1, 4, 9, 1000000] (fun x => [(10, .ms st x.2.2.2.1 x.2.2.1.length x.2.1.length)]) (fun x => (st, x.2.2.2.1, .row 1 (x.2.2.1 ++ bv (nts x.2.1))) :: (sd, bd, .row 1 (bv x.1)) :: R)
      (fun x => x.2.2.2.2 ≤ is.length ∧ DSt is.length x.1 x.2.1 x.2.2.2.2 ∧ nj is (iW is) x.2.2.2.2 x.1 x.2.1 = bP is) (fun x => x.2.2.2.2) (0 :: List.replicate (is.length - 1) (-1), [0], [], bt, is.length) ⟨Nat.le_refl _, jK hn1, hd.symm⟩
    exact kp_; (repeat (first | exact bj.envNil | refine bj.envCons we_ ?_))
    · exact .refl _
    rintro ⟨ds, q, pre, bt, f⟩ ⟨hf, hD, hfl⟩
    dsimp only at hf hD hfl ⊢
    cases q with
    | nil =>
      have hdl := hD.len
      have hd' : bP is = some ds := by rw [← hfl]; simp [nj]
      have h00 : ([] : List Nat).length = 0 := rfl
      rw [hd']
      repeat' (first | ((with_reducible apply o_y); exact y_; rfl) | with_reducible refine ab rfl ?_ | (with_reducible first | apply ag | apply aa | apply ah | apply ac | apply aH | apply au | apply ar | apply aq) | (refine aj rfl rr_ dd_ ?_))
      refine cT x_ rfl (sd, bd) trivial rfl (.cons _ _ _ _ (.nil R)) pk_ (.tmp _ _ rfl) (.tmp _ _ rfl) (by simp [dR, hdl])
    | cons p q =>
    obtain ⟨j, rfl, hD', hpn, hg0⟩ := hD.pop
    clear hD
    have hlc : (p :: q).length = q.length + 1 := rfl
    rw [fH _ _ _ _ _ hpn] at hfl
    have hrange := hD'.inv.gd (p : Nat)
    have hdl := hD'.len
    have hmu := hD'.mu
    have hgp : (pre ++ bv (nts (p :: q)))[pre.length + 0]? = some [.int .i64 (p : Int)] := by
      rw [Nat.add_zero, List.getElem?_append_right (Nat.le_refl _), Nat.sub_self]; rfl
    have hdi : (bv ds)[p]? = some [.int .i64 (gd ds (p : Nat))] := by
      have h9 := lV (ds := ds) (p := p) (by omega)
      simp only [bv, List.getElem?_map]
      rw [List.getElem?_eq_getElem (by omega), h9]; rfl
    have hii : (df is)[p]? = some (is[p]).tv := by simp only [df, List.getElem?_map]; rw [List.getElem?_eq_getElem hpn]; rfl
    have hpi : cU is.length is[p] = true := List.all_eq_true.1 hpo _ (List.getElem_mem _)
    have hti := ht _ (List.getElem_mem hpn)
    generalize is[p] = ii at hfl hii hpi hti
    obtain ⟨op, a, b, t⟩ := ii
    replace hti : t.size ≤ 1048576 := hti
    have her := fS ⟨op, a, b, t⟩
    have hop : inR op 1 26 = true := by simp only [cU, Bool.and_eq_true] at hpi; exact hpi.1.1
    have hef := nZ hst hca op a b t hti hop
    have hnx := wW hst hca op a b t p (gd ds p) hti hop (by omega) ⟨hg0, hrange.2⟩
    replace hii : (df is)[p]? = some [.int .i64 op, .int .i64 a, .int .i64 b, .str t] := hii
    have hstep : iW is ⟨op, a, b, t⟩ p ds = if gd ds p < (aD.eff ⟨op, a, b, t⟩).1 then none else if (aD.labs ⟨op, a, b, t⟩).any (eY is p op) then none else eT is.length (aD.nexts ⟨op, a, b, t⟩ p (gd ds p)) (ds, []) := rfl
    rw [hstep, mr, List.any_map] at hfl
    clear hstep
    have hpi0 := hpi
    rw [pi, Bool.and_eq_true] at hpi
    have hlb := hpi.2
    clear hpi
    have hn0 : ¬ gd ds p < (aD.eff ⟨op, a, b, t⟩).1 → ∀ x ∈ aD.nexts ⟨op, a, b, t⟩ p (gd ds p), 0 ≤ x.2 := fun h => ew ⟨op, a, b, t⟩ p (gd ds p) hg0 h fun h14 => by
      have := hpi0
      simp only [cU, Bool.and_eq_true] at this
      have h3 := this.1.2
      simp [show op = 14 from h14] at h3
      simp [aD.eff, show op = 14 from h14]; exact h3
    clear hpi0
    have hnl := n8 ⟨op, a, b, t⟩ p (gd ds p)
    generalize aD.nexts ⟨op, a, b, t⟩ p (gd ds p) = L at *
    generalize (aD.eff ⟨op, a, b, t⟩).1 = e1 at *
    generalize (aD.eff ⟨op, a, b, t⟩).2 = e2 at *
    generalize hgg : gd ds (p : Int) = g at *
    by_cases hlt : g < e1
    · rw [if_pos hlt] at hfl
      rw [← hfl]
      repeat' (first | ((with_reducible apply o_y); exact y_; rfl) | refine wu ?_ | (refine aI ?_; intro ss bb) | refine aA ?_ | refine aw hG hst (hef) ?_ | with_reducible refine ab rfl ?_ | (with_reducible first | apply ag | apply aa | apply ah | apply ac | apply ai | apply ap | apply au | apply ad | apply ak) | (refine ae rfl rr_ dd_ ?_))
      refine dG 2 1 (by omega) rfl fun ss => cT x_ rfl (ss, 0) trivial rfl (.cons _ _ _ _ (.nil R)) pk_ (.tmp _ _ rfl) (.tmp _ _ rfl) rfl
    rw [if_neg hlt] at hfl
    replace hn0 := hn0 hlt
    have hlr := fun s b => ky op s b
    have hol := nN op
    repeat' (first | ((with_reducible apply o_y); exact y_; rfl) | refine wu ?_ | (refine aI ?_; intro ss bb) | refine aA ?_ | refine aw hG hst (hef) ?_ | ((with_reducible apply bE); rfl; kernel_rfl; (repeat (first | exact bA.nil | ((with_reducible apply bA.cons); rfl))); exact hG; exact kz ss bb op a b t; exact .cons _ _ _ _ (.nil _); intro y _; obtain ⟨sl5, bl5⟩ := y; refine uy ?_) | with_reducible refine ab rfl ?_ | (with_reducible first | apply ag | apply aa | apply ah | apply ac | apply ai | apply ap) | (refine ae rfl rr_ dd_ ?_) | (refine aj rfl rr_ dd_ ?_))
    generalize ss = s6; generalize bb = b6
    have hlr6 := hlr s6 b6
    clear hlr
    apply aK (X := Nat) [1, 4, 9, 11, 12, 100, 101, 1000000] (fun k => [(102, .int .i64 (k : Int)), (10, .ms st bt (pre ++ [[TV.int .i64 (p : Int)]]).length q.length)]) (fun _ => (sl5, bl5, .row 1 (rl op s6 b6)) :: (s6, b6, .box [.int .i64 op, .int .i64 a, .int .i64 b, .str t]) :: (st, bt, .row 1 ((pre ++ [[TV.int .i64 (p : Int)]]) ++ bv (nts q))) :: (sd, bd, .row 1 (bv ds)) :: R)
      (fun k => k ≤ (cr op).length ∧ ((cr op).take k).any (eY is p op ∘ lG a b) = false) (fun k => (cr op).length - k) 0 ⟨Nat.zero_le _, rfl⟩
    (repeat (first | exact gn.nil | (apply gn.cons; rfl)))
    · (repeat (first | exact bj.envNil | refine bj.envCons (by first | rfl | exact yv rfl (by simp) (by simp)) ?_))
    · refine .cons (.head _) (.cons (.head _) ?_)
      rw [List.append_assoc]
      exact .refl _
    have hpr : (pre ++ [[TV.int .i64 (p : Int)]]).length = pre.length + 1 := by simp
    generalize pre ++ [[TV.int .i64 (p : Int)]] = pre1 at *
    rintro k ⟨hk, hka⟩
    try dsimp only
    by_cases hkl : k < (cr op).length
    · have hrow := qV (s := s6) (b := b6) hkl
      have hkk : ((cr op).take (k + 1)).any (eY is p op ∘ lG a b) = (eY is p op ∘ lG a b) (cr op)[k] := by
        rw [List.take_add_one, List.any_append, hka, List.getElem?_eq_getElem hkl]; simp
      have hkb : (eY is p op ∘ lG a b) (cr op)[k] = true → (cr op).any (eY is p op ∘ lG a b) = true := fun h => List.any_eq_true.2 ⟨_, List.getElem_mem hkl, h⟩
      have hmem := lz (List.getElem_mem hkl)
      have hin := List.all_eq_true.1 hlb _ (List.getElem_mem hkl)
      generalize (cr op)[k] = o at hrow hkk hkb hmem hin
      dsimp only [Function.comp] at hkk hkb
      simp only [inR, decide_eq_true_eq] at hin
      obtain ⟨vn, hvn⟩ : ∃ vn : Nat, lG a b o = (vn : Int) := ⟨(lG a b o).toNat, by omega⟩
      rw [hvn] at hkk hkb hin
      have hvl : vn < is.length := by omega
      repeat' (first | ((with_reducible apply o_y); exact y_; rfl) | with_reducible refine bx (id := 30) ?_ | with_reducible refine ab rfl ?_ | (with_reducible first | apply ag | apply aa | apply ah | apply ac | apply ai | apply ap) | (refine ae rfl rr_ dd_ ?_))
      refine ⟨ag ?_⟩
      apply en (X := Unit) [1, 4, 9, 10, 11, 12, 100, 101, 102, 1000000] (fun _ => [(126, .bool (eY is p op (vn : Int)))]) (fun _ => (sl5, bl5, .row 1 (rl op s6 b6)) :: (s6, b6, .box [.int .i64 op, .int .i64 a, .int .i64 b, .str t]) :: (st, bt, .row 1 (pre1 ++ bv (nts q))) :: (sd, bd, .row 1 (bv ds)) :: R) (fun _ => True)
      case hk => (repeat (first | exact gn.nil | (apply gn.cons; rfl)))
      · have hri : (df is)[vn]? = some (is[vn]).tv := by simp only [df, List.getElem?_map]; rw [List.getElem?_eq_getElem hvl]; rfl
        have hoa : yh is (vn : Int) = is[vn].op := by simp [yh, hvl]
        clear hkk hkb hka hlb hfl hnx hef hpo ht
        generalize is[vn] = iu at hri hoa
        obtain ⟨op', a', b', t'⟩ := iu
        replace hri : (df is)[vn]? = some [.int .i64 op', .int .i64 a', .int .i64 b', .str t'] := hri
        have hbs : eY is p op (vn : Int) = (!decide (op = 26) && decide ((vn : Int) ≤ p) && !decide (op' = 23)) := by simp [eY, hoa]
        rw [hbs]
        have hw3 : op = 26 ∨ (¬ op = 26 ∧ (vn : Int) ≤ p) ∨ (¬ op = 26 ∧ ¬ (vn : Int) ≤ p) := by omega
        rcases hmem with rfl | rfl
        all_goals
          first
            | obtain rfl : a = (vn : Int) := hvn
            | obtain rfl : b = (vn : Int) := hvn
          rcases hw3 with h26 | ⟨h26, hle⟩ | ⟨h26, hle⟩
          all_goals
            repeat' (first | with_reducible refine aF (by kernel_rfl) (by kernel_rfl) ?_ | with_reducible refine aN ?_ | with_reducible refine aE rfl ?_ | refine aX rfl rfl rfl rr_ ?_ | refine aV rfl rfl rfl rr_ rfl rfl rfl ?_ | (refine cF rfl rfl rfl rr_ dd_ ?_) | (refine bW rfl rfl rfl rr_ dd_ ?_) | ((with_reducible apply d_y); exact y_; rfl))
            refine dh () trivial (.of _ nw_ od_ pk_)
      · intro _ _
        by_cases hbk : eY is p op (vn : Int) = true
        · rw [hkb hbk, if_pos rfl] at hfl
          rw [hbk, ← hfl]
          repeat' (first | with_reducible refine ab rfl ?_ | ((with_reducible apply jR); rfl; rfl) | with_reducible refine ag ?_ | with_reducible refine aa ?_ | with_reducible refine ah ?_ | with_reducible refine ac ?_ | with_reducible refine au ?_ | with_reducible refine ad ?_ | with_reducible refine ak ?_ | refine av rfl rr_ ?_)
          refine dG 2 1 (by omega) rfl fun ss => cT x_ rfl (ss, 0) trivial rfl (.cons _ _ _ _ (.nil R)) pk_ (.tmp _ _ rfl) (.tmp _ _ rfl) rfl
        · rw [Bool.not_eq_true] at hbk
          rw [hbk]
          repeat' (first | ((with_reducible apply o_y); exact y_; rfl) | with_reducible refine ab rfl ?_ | (with_reducible first | apply aa | apply ah | apply ac | apply ap | apply aB) | refine az rfl rr_ ?_)
          exact aG (k + 1) ⟨by omega, by rw [hkk, hbk]⟩ (by omega) (.of _ nw_ od_ pk_)
    · rw [List.take_of_length_le (by omega)] at hka
      rw [hka, if_neg (by simp)] at hfl
      repeat' (first | ((with_reducible apply o_y); exact y_; rfl) | with_reducible refine aF (by kernel_rfl) (by kernel_rfl) ?_ | with_reducible refine aN ?_ | with_reducible refine aE rfl ?_ | ((with_reducible apply d_y); exact y_; rfl) | refine ay hG hst (hnx) ?_ | with_reducible refine ab rfl ?_ | (with_reducible first | apply ag | apply aa | apply ah | apply ac | apply ai | apply aH | apply ar | apply aq) | (refine aj rfl rr_ dd_ ?_))
      clear hka hlb hef hnx hmu
      apply aK (X := Nat × List Int × List Nat × Nat × List (List TV)) [1, 4, 9, 134, 135, 1000000] (fun x => [(136, .int .i64 (x.1 : Int)), (10, .ms st x.2.2.2.1 x.2.2.2.2.length (q.length + x.2.2.1.length))])
        (fun x => (st, x.2.2.2.1, .row 1 (x.2.2.2.2 ++ bv (nts (q ++ x.2.2.1)))) :: (sd, bd, .row 1 (bv x.2.1)) :: R)
        (fun x => x.1 ≤ L.length ∧ x.2.1.length = is.length ∧ x.2.2.1.length ≤ x.1 ∧ eT is.length (L.drop x.1) (x.2.1, x.2.2.1) = eT is.length L (ds, [])) (fun x => L.length - x.1) (0, ds, [], bt, pre1) ⟨Nat.zero_le _, hdl, Nat.zero_le _, rfl⟩
      exact kp_; (repeat (first | exact bj.envNil | refine bj.envCons we_ ?_))
      · rw [List.append_nil]; exact pk_
      rintro ⟨k, ds', new, bt', pre'⟩ ⟨hk, hdl', hnw, hpu⟩
      dsimp only at hk hdl' hnw hpu ⊢
      have hqf : q.length ≤ is.length := by have := hD'.mu; omega
      by_cases hkl : k < L.length
      · rw [List.drop_eq_getElem_cons hkl] at hpu
        have hrow : (plR L)[k]? = some [.int .i64 L[k].1, .int .i64 L[k].2] := by simp [plR, hkl]
        generalize L[k] = uv at hpu hrow
        obtain ⟨u, v⟩ := uv
        dsimp only at hrow
        rw [sw] at hpu
        repeat' (first | ((with_reducible apply o_y); exact y_; rfl) | (refine aI ?_; intro ss bb) | refine aA ?_ | with_reducible refine oS (id := 10) ?_ | with_reducible refine ab rfl ?_ | (with_reducible first | apply ag | apply aa | apply ah | apply ac | apply ai | apply ap) | (refine ae rfl rr_ dd_ ?_))
        refine ⟨ai (ag ?_)⟩
        generalize ss = s8; generalize bb = b8
        apply en (X := Unit) [1, 4, 9, 10, 18, 134, 135, 136, 1000000] (fun _ => [(140, .bool (pl is.length ds' u v))]) (fun _ => (s8, b8, .box [.int .i64 u, .int .i64 v]) :: (st, bt', .row 1 (pre' ++ bv (nts (q ++ new)))) :: (sd, bd, .row 1 (bv ds')) :: R) (fun _ => True)
        case hk => (repeat (first | exact gn.nil | (apply gn.cons; rfl)))
        · clear hpu hfl hn0 hpo ht
          by_cases hin : inR u 0 ((is.length : Int) - 1) = true
          · have hw : ∀ G, Ct Tryz.prog G 57 [.int .i64 u, .int .i64 0, .int .i64 ((is.length - 1 : Nat) : Int)] (fun _ => .bool true) := fun G => by rw [hc1, ← hin]; exact a7 _ _ _
            have hin2 : 0 ≤ u ∧ u ≤ (is.length : Int) - 1 := by simpa [inR] using hin
            obtain ⟨un, rfl⟩ : ∃ un : Nat, u = (un : Int) := ⟨u.toNat, by omega⟩
            have hun : un < is.length := by omega
            have hrd : (bv ds')[un]? = some [.int .i64 (gd ds' (un : Int))] := by
              have h9 := lV (ds := ds') (p := un) (by omega)
              simp only [bv, List.getElem?_map]
              rw [List.getElem?_eq_getElem (by omega), h9]; rfl
            have hbs : pl is.length ds' (un : Int) v = (decide (250 < v) || (decide (0 ≤ gd ds' (un : Int)) && !decide (gd ds' (un : Int) = v))) := by simp [pl, hin]
            rw [hbs]
            generalize gd ds' (un : Int) = gv at hrd ⊢
            have hw3 : 250 < v ∨ (¬ 250 < v ∧ 0 ≤ gv) ∨ (¬ 250 < v ∧ ¬ 0 ≤ gv) := by omega
            rcases hw3 with h250 | ⟨h250, hg0'⟩ | ⟨h250, hg0'⟩
            all_goals
              repeat' (first | with_reducible refine aF (by kernel_rfl) (by kernel_rfl) ?_ | with_reducible refine aN ?_ | with_reducible refine aE rfl ?_ | refine aX rfl rfl rfl rr_ ?_ | refine aV rfl rfl rfl rr_ rfl rfl rfl ?_ | refine jJ rfl rfl rfl rr_ rfl rfl ?_ | (refine cF rfl rfl rfl rr_ dd_ ?_) | (refine bW rfl rfl rfl rr_ dd_ ?_) | ((with_reducible apply d_y); exact y_; rfl) | refine ay hG hst (hw _) ?_)
              refine dh () trivial (.of _ (bj.envCons (fN rfl (by simp [*])) bj.envNil) od_ pk_)
          · rw [Bool.not_eq_true] at hin
            have hw : ∀ G, Ct Tryz.prog G 57 [.int .i64 u, .int .i64 0, .int .i64 ((is.length - 1 : Nat) : Int)] (fun _ => .bool false) := fun G => by rw [hc1, ← hin]; exact a7 _ _ _
            have hbs : pl is.length ds' u v = true := by simp [pl, hin]
            rw [hbs]
            repeat' (first | with_reducible refine aF (by kernel_rfl) (by kernel_rfl) ?_ | with_reducible refine aN ?_ | with_reducible refine aE rfl ?_ | refine aV rfl rfl rfl rr_ rfl rfl rfl ?_ | refine jJ rfl rfl rfl rr_ rfl rfl ?_ | ((with_reducible apply d_y); exact y_; rfl) | refine ay hG hst (hw _) ?_)
            refine dh () trivial (.of _ nw_ od_ pk_)
        · intro _ _
          by_cases hb : pl is.length ds' u v = true
          · rw [if_pos hb] at hpu
            rw [← hpu] at hfl
            dsimp only at hfl
            rw [hb, ← hfl]
            repeat' (first | with_reducible refine ab rfl ?_ | ((with_reducible apply jR); rfl; rfl) | with_reducible refine ag ?_ | with_reducible refine aa ?_ | with_reducible refine ah ?_ | with_reducible refine ac ?_ | with_reducible refine au ?_ | with_reducible refine ad ?_ | with_reducible refine ak ?_ | refine av rfl rr_ ?_)
            refine dG 2 1 (by omega) rfl fun ss => cT x_ rfl (ss, 0) trivial rfl (.cons _ _ _ _ (.nil R)) pk_ (.tmp _ _ rfl) (.tmp _ _ rfl) rfl
          · rw [if_neg hb] at hpu
            have hin : inR u 0 ((is.length : Int) - 1) = true := by
              cases h : inR u 0 ((is.length : Int) - 1)
              · exact absurd (by simp [pl, h]) hb
              · rfl
            rw [Bool.not_eq_true] at hb
            rw [hb]
            have hin2 : 0 ≤ u ∧ u ≤ (is.length : Int) - 1 := by simpa [inR] using hin
            obtain ⟨un, rfl⟩ : ∃ un : Nat, u = (un : Int) := ⟨u.toNat, by omega⟩
            have hun : un < is.length := by omega
            have hrd : (bv ds')[un]? = some [.int .i64 (gd ds' (un : Int))] := by
              have h9 := lV (ds := ds') (p := un) (by omega)
              simp only [bv, List.getElem?_map]
              rw [List.getElem?_eq_getElem (by omega), h9]; rfl
            have hrl : pre'.length + (q.length + new.length) ≤ (pre' ++ bv (nts (q ++ new))).length := by simp [bv, nts]
            have hlive : ((pre' ++ bv (nts (q ++ new))).drop pre'.length).take (q.length + new.length) = bv (nts (q ++ new)) := by
              rw [List.drop_left, List.take_of_length_le (by simp [bv, nts])]
            by_cases hgn : gd ds' (un : Int) < 0
            · rw [if_pos hgn] at hpu
              have hset : (bv ds').set un [.int .i64 v] = bv (ds'.set un v) := mG ds' un v
              repeat' (first | ((with_reducible apply o_y); exact y_; rfl) | refine cE ?_ | refine dk ?_ | (refine x3 ?_; intro bb pp) | with_reducible refine ab rfl ?_ | (with_reducible first | apply ag | apply aa | apply ah | apply ac | apply aB) | refine az rfl rr_ ?_ | (refine ae rfl rr_ dd_ ?_))
              refine aG (k + 1, ds'.set un v, new ++ [un], bb, pp) ⟨by dsimp only; omega, by simp [hdl'], by simp; omega, by dsimp only; rw [← hpu]; rfl⟩ (by dsimp only; omega) (.of _ nw_ od_ pk_)
            · rw [if_neg hgn] at hpu
              repeat' (first | ((with_reducible apply o_y); exact y_; rfl) | with_reducible refine ab rfl ?_ | (with_reducible first | apply ag | apply aa | apply ah | apply ac | apply ap | apply aB) | refine az rfl rr_ ?_ | (refine aj rfl rr_ dd_ ?_))
              refine aG (k + 1, ds', new, bt', pre') ⟨by dsimp only; omega, hdl', by dsimp only; omega, by dsimp only; exact hpu⟩ (by dsimp only; omega) (.of _ nw_ od_ pk_)
      · rw [List.drop_of_length_le (by omega)] at hpu
        rw [← hpu] at hfl
        dsimp only [eT] at hfl
        repeat' (first | ((with_reducible apply o_y); exact y_; rfl) | with_reducible refine ab rfl ?_ | (with_reducible first | apply ag | apply aa | apply ah | apply ac | apply aH | apply ar | apply aq | apply aB) | (refine aj rfl rr_ dd_ ?_))
        refine aG (ds', q ++ new, pre', bt', j) ⟨by dsimp only; omega, ?_, by dsimp only; exact hfl⟩ (by dsimp only; omega) (.of _ nw_ od_ pk_)
        dsimp only
        exact f3 L ds q [] (ds', new) hn0 (by rw [List.append_nil]; exact hD') hpu.symm
def mP (cs : List aT) (k n : Int) : Prop := ∃ x, cs[k.toNat]? = some x ∧ x.block = false ∧ x.params = n
theorem fm {cs : List aT} {k n : Int} {j : Nat} {x : aT} (hk : k = j) (hx : cs[j]? = some x) : mP cs k n ↔ x.block = false ∧ x.params = n := by
  unfold mP
  subst hk
  rw [Int.toNat_natCast, hx]
  constructor
  · rintro ⟨y, hy, h⟩; cases hy; exact h
  · exact fun h => ⟨x, rfl, h⟩
def dA (nc : Nat) (cs : List aT) (e : aW) : Prop :=
  (cm e.selector.data.toList = true ∧ inR e.owner 16 ((nc : Int) - 1) = true ∧ inR e.code 0 ((cs.length : Int) - 1) = true) ∧ mP cs e.code (bS e.selector.data.toList)
def du (e f : aW) : Prop := f.owner = e.owner ∧ f.class_ = e.class_ ∧ f.selector = e.selector
def cS (es : List aW) (i : Nat) (e : aW) : Prop := ∀ f ∈ es.take i, ¬ du e f
def kI (nc : Nat) (cs : List aT) (es : List aW) : Prop := ∀ (i : Nat) (h : i < es.length), dA nc cs es[i] ∧ cS es i es[i]
open Classical in
noncomputable def d8 (nc : Nat) (cs : List aT) (es : List aW) : Bool := decide (kI nc cs es ∧ es.length ≤ 96)
theorem qG {nc : Nat} {cs : List aT} {es : List aW} {i : Nat} (h : i < es.length) (hb : ¬ (dA nc cs es[i] ∧ cS es i es[i])) : ¬ kI nc cs es := fun k => hb (k i h)
theorem pd {nc : Nat} {cs : List aT} {es : List aW} (h : ∀ j, j < es.length → ∀ h : j < es.length, dA nc cs es[j] ∧ cS es j es[j]) : kI nc cs es := fun i hi => h i hi hi

open Classical in
theorem ju {nc : Nat} {cs : List aT} {es : List aW} {i : Nat} (h : i < es.length) (hb : ¬ (dA nc cs es[i] ∧ cS es i es[i])) : d8 nc cs es = false := decide_eq_false fun k => qG h hb k.1
open Classical in
theorem iq {nc : Nat} {cs : List aT} {es : List aW} (h : ∀ j, j < es.length → ∀ h : j < es.length, dA nc cs es[j] ∧ cS es j es[j]) : d8 nc cs es = decide ((es.length : Int) ≤ 96) := by
  unfold d8
  rw [decide_eq_decide]
  exact ⟨fun h => by omega, fun k => ⟨pd h, by omega⟩⟩
open Classical in
theorem mF {nc : Nat} {cs : List aT} {es : List aW} (h : ¬ es.length ≤ 96) : d8 nc cs es = false := decide_eq_false fun k => h k.2
def ud (i : Nat) (x : aD) (o : List Int) : Option (List Int) :=
  if x.op = 15 then (if (0 ≤ x.a ∧ x.a ≤ (i : Int) - 1) ∧ ¬ 0 ≤ gd o x.a then some (o.set x.a.toNat i) else none) else some o
def jq (i : Nat) : List aD → List Int → Option (List Int)
  | [], o => some o
  | x :: r, o => match ud i x o with
    | none => none
    | some o' => jq i r o'
def o5 : Nat → List aT → List Int → Option (List Int)
  | _, [], o => some o
  | i, x :: r, o => match jq i x.instrs o with
    | none => none
    | some o' => o5 (i + 1) r o'
def mj (cs : List aT) (o : List Int) : Prop := ∀ (i : Nat) (h : i < cs.length), cs[i].block = decide (0 ≤ gd o (i : Int))
open Classical in
noncomputable def eO (cs : List aT) : Option (List Int) → Option (List Int)
  | none => none
  | some o => if mj cs o then some o else none
noncomputable def eg (cs : List aT) (i : Nat) (r : List aD) (o : List Int) : Option (List Int) := eO cs (match jq i r o with
    | none => none
    | some o' => o5 (i + 1) (cs.drop (i + 1)) o')
noncomputable def ek (cs : List aT) (i : Nat) (o : List Int) : Option (List Int) := eO cs (o5 i (cs.drop i) o)
noncomputable def dy (cs : List aT) : Option (List Int) := ek cs 0 (List.replicate cs.length (-1))
theorem jz {cs : List aT} {i : Nat} (h : i < cs.length) (o : List Int) : ek cs i o = eg cs i cs[i].instrs o := by
  unfold ek eg
  rw [List.drop_eq_getElem_cons h]; rfl
theorem kd {cs : List aT} {i : Nat} (h : ¬ i < cs.length) (o : List Int) : ek cs i o = eO cs (some o) := by
  unfold ek
  rw [List.drop_of_length_le (by omega)]; rfl
theorem jy {cs : List aT} {i k : Nat} {is : List aD} (h : k < is.length) (o : List Int) : eg cs i (is.drop k) o = match ud i is[k] o with
    | none => none
    | some o' => eg cs i (is.drop (k + 1)) o' := by
  unfold eg
  rw [List.drop_eq_getElem_cons h]
  show eO cs (match (match ud i is[k] o with | none => none | some o' => jq i (is.drop (k + 1)) o') with | none => none | some o' => o5 (i + 1) (cs.drop (i + 1)) o') = _
  cases ud i is[k] o <;> rfl
theorem jY {cs : List aT} {i k : Nat} {is : List aD} (h : ¬ k < is.length) (o : List Int) : eg cs i (is.drop k) o = ek cs (i + 1) o := by
  unfold eg ek
  rw [List.drop_of_length_le (by omega)]; rfl
theorem oC {o : List Int} {a b : Nat} {v : Int} (h : a ≠ b) : gd (o.set a v) (b : Int) = gd o (b : Int) := by
  simp [gd, h]
theorem iG {o : List Int} {a : Nat} {v : Int} (h : a < o.length) : gd (o.set a v) (a : Int) = v := by
  simp [gd, h]
def cB (n : Nat) (o : List Int) : Prop := o.length = n ∧ ∀ j : Nat, j < n → gd o j = -1 ∨ ((j : Int) < gd o j ∧ gd o j < n)
theorem fd (n : Nat) : cB n (List.replicate n (-1)) := ⟨by simp, fun j hj => .inl (by simp [gd, hj])⟩
theorem jO {n i : Nat} {x : aD} {o o' : List Int} (hi : i < n) (h : ud i x o = some o') (ho : cB n o) : cB n o' ∧ ∀ j : Nat, 0 ≤ gd o j → 0 ≤ gd o' j := by
  unfold ud at h
  split at h
  · split at h
    · rename_i h1
      cases h
      obtain ⟨a, ha⟩ : ∃ a : Nat, x.a = a := ⟨x.a.toNat, by omega⟩
      rw [ha] at h1 ⊢
      rw [Int.toNat_natCast]
      have hal : a < n := by omega
      refine ⟨⟨by simp [ho.1], fun j hj => ?_⟩, fun j hj => ?_⟩
      · by_cases hja : a = j
        · subst hja
          rw [iG (by rw [ho.1]; exact hal)]
          exact .inr ⟨by omega, by omega⟩
        · rw [oC hja]; exact ho.2 j hj
      · by_cases hja : a = j
        · subst hja
          rw [iG (by rw [ho.1]; exact hal)]; omega
        · rw [oC hja]; exact hj
    · cases h
  · cases h; exact ⟨ho, fun j hj => hj⟩
theorem eR {n i : Nat} (hi : i < n) : ∀ {r : List aD} {o o' : List Int}, jq i r o = some o' → cB n o → cB n o' ∧ ∀ j : Nat, 0 ≤ gd o j → 0 ≤ gd o' j
  | [], o, o', h, ho => by cases h; exact ⟨ho, fun _ hj => hj⟩
  | x :: r, o, o', h, ho => by
    unfold jq at h
    split at h
    · cases h
    · rename_i o1 h1
      obtain ⟨h2, h3⟩ := jO hi h1 ho
      obtain ⟨h4, h5⟩ := eR hi h h2
      exact ⟨h4, fun j hj => h5 j (h3 j hj)⟩
theorem iF {n : Nat} : ∀ {r : List aT} {i : Nat} {o o' : List Int}, i + r.length ≤ n → o5 i r o = some o' → cB n o → cB n o' ∧ ∀ j : Nat, 0 ≤ gd o j → 0 ≤ gd o' j
  | [], i, o, o', _, h, ho => by cases h; exact ⟨ho, fun _ hj => hj⟩
  | x :: r, i, o, o', hn, h, ho => by
    unfold o5 at h
    split at h
    · cases h
    · rename_i o1 h1
      simp only [List.length_cons] at hn
      obtain ⟨h2, h3⟩ := eR (by omega) h1 ho
      obtain ⟨h4, h5⟩ := iF (by omega) h h2
      exact ⟨h4, fun j hj => h5 j (h3 j hj)⟩
theorem gK {cs : List aT} {p : Option (List Int)} {o : List Int} (h : eO cs p = some o) : p = some o ∧ mj cs o := by
  cases p with
  | none => cases h
  | some o' =>
    by_cases hf : mj cs o'
    · have : eO cs (some o') = some o' := by unfold eO; exact if_pos hf
      rw [this] at h; cases h; exact ⟨rfl, hf⟩
    · have : eO cs (some o') = none := by unfold eO; exact if_neg hf
      rw [this] at h; cases h
theorem gI {cs : List aT} {o : List Int} (h : dy cs = some o) : cB cs.length o ∧ mj cs o := by
  obtain ⟨h1, h2⟩ := gK h
  exact ⟨(iF (by simp) h1 (fd _)).1, h2⟩
theorem kn {cs : List aT} {i k : Nat} {is : List aD} {o : List Int} {a : Nat} (hi : i < cs.length) (ho : cB cs.length o) (ha : a < cs.length) (hb : cs[a].block = false) (hp : 0 ≤ gd o (a : Int)) : eg cs i (is.drop k) o = none := by
  cases h : eg cs i (is.drop k) o with
  | none => rfl
  | some o' =>
    exfalso
    obtain ⟨h1, h2⟩ := gK h
    split at h1
    · cases h1
    · rename_i o1 h3
      obtain ⟨h4, h5⟩ := eR hi h3 ho
      obtain ⟨h6, h7⟩ := iF (by simp; omega) h1 h4
      have h8 := h2 a ha
      rw [hb] at h8
      have h9 := h7 a (h5 a hp)
      rw [decide_eq_true h9] at h8
      cases h8
theorem lL {cs : List aT} {o : List Int} {i : Nat} (h : i < cs.length) (hb : cs[i].block ≠ decide (0 ≤ gd o (i : Int))) : eO cs (some o) = none := by
  unfold eO
  exact if_neg fun k => hb (k i h)
theorem ke {cs : List aT} {o : List Int} (h : ∀ j, j < cs.length → ∀ h : j < cs.length, cs[j].block = decide (0 ≤ gd o (j : Int))) : eO cs (some o) = some o := by
  unfold eO
  exact if_pos fun i hi => h i hi hi

def eM (o : List Int) : Nat → Int → List Int
  | 0, _ => []
  | n + 1, k => if k < 0 then [] else k :: eM o n (gd o k)
def upN (o : List Int) : Nat → Int → Int
  | 0, k => k
  | n + 1, k => if k < 0 then k else upN o n (gd o k)
theorem mb (o : List Int) (n : Nat) {k : Int} (h : k < 0) : upN o n k = k := by
  cases n with
  | zero => rfl
  | succ n => unfold upN; rw [if_pos h]
theorem jQ {o : List Int} (hinv : cB o.length o) : ∀ (n : Nat) (k : Int) (b : Nat), k = -1 ∨ (0 ≤ k ∧ k < o.length ∧ o.length ≤ n + k.toNat) → (eM o n k)[b]? = if 0 ≤ upN o b k then some (upN o b k) else none
  | 0, k, b, h => by
    obtain rfl : k = -1 := by omega
    rw [mb o b (by omega)]; rfl
  | n + 1, k, b, h => by
    rcases h with rfl | ⟨h0, h1, h2⟩
    · rw [mb o b (by omega)]; rfl
    · unfold eM
      rw [if_neg (by omega)]
      obtain ⟨j, rfl⟩ : ∃ j : Nat, k = j := ⟨k.toNat, by omega⟩
      cases b with
      | zero =>
        show some (j : Int) = _
        unfold upN
        rw [if_pos h0]
      | succ b =>
        show (eM o n (gd o j))[b]? = _
        have hj := hinv.2 j (by omega)
        rw [jQ hinv n (gd o j) b (by rw [Int.toNat_natCast] at h2; omega)]
        have : upN o (b + 1) j = upN o b (gd o j) := by
          conv => lhs; unfold upN
          rw [if_neg (by omega)]
        rw [this]
theorem ip (o : List Int) : ∀ (n : Nat) (k : Int), (eM o n k).length ≤ n
  | 0, _ => Nat.le_refl _
  | n + 1, k => by
    unfold eM
    split
    · simp
    · have := ip o n (gd o k); simp; omega
theorem bN {lo : Nat} {cs : List aT} {j : Nat} (h : j < cs.length) : (cs.map (aT.tw lo))[j]? = some [.bool cs[j].block, .int .i64 cs[j].params, .int .i64 cs[j].slots, .sl lo 4 (cs[j].instrs.map (aD.tw lo))] := bg h
theorem f5 {lo : Nat} {es : List aW} {j : Nat} (h : j < es.length) : (es.map (aW.tw lo))[j]? = some [.int .i64 es[j].owner, .bool es[j].class_, .str es[j].selector, .int .i64 es[j].code] := bg h
theorem gc {lo : Nat} {is : List aD} {j : Nat} (h : j < is.length) : (is.map (aD.tw lo))[j]? = some [.int .i64 is[j].op, .int .i64 is[j].a, .int .i64 is[j].b, .str is[j].text] := bg h
def aD.none : aD := ⟨0, 0, 0, ⟨#[]⟩⟩
def dI (cs : List aT) (o : List Int) (k : Nat) (b : Int) : Option aT := if 0 ≤ b ∧ 0 ≤ upN o b.toNat k then cs[(upN o b.toNat k).toNat]? else none
def qd (cs : List aT) (o : List Int) (k : Nat) (x : aD) : Bool := match dI cs o k x.b with
  | none => false
  | some y => inR x.a (if x.op = 9 then y.params else 0) (IntKind.i64.wrap (y.slots - 1))
def dn (x : aD) : Prop := inR x.op 1 26 = true ∧ (yF x.op = true ∨ x.a = 0) ∧ (yf x.op = true ∨ x.b = 0) ∧ (yA x.op = true ∨ x.text = ⟨#[]⟩)
instance (x : aD) : Decidable (dn x) := by unfold dn; infer_instance
def cz (cs : List aT) (nc : Nat) (o : List Int) (k : Nat) (own : aT) (x : aD) : Bool :=
  if x.op = 1 then inR x.a 0 999999999
  else if x.op = 2 then kb x.text
  else if x.op = 3 ∨ x.op = 13 then cm x.text.data.toList
  else if x.op = 8 ∨ x.op = 9 then qd cs o k x
  else if x.op = 10 ∨ x.op = 11 then ce x.text.data.toList
  else if x.op = 12 then inR x.a 0 ((nc : Int) - 1)
  else if x.op = 14 then cm x.text.data.toList && inR x.a 0 ((nc : Int) - 1)
  else if x.op = 20 then inR x.a 0 ((own.instrs.length : Int) - 1)
  else if x.op = 21 ∨ x.op = 22 then inR x.a 0 ((own.instrs.length : Int) - 1) && inR x.b 0 ((own.instrs.length : Int) - 1)
  else if x.op = 24 then inR x.b 0 ((own.instrs.length : Int) - 1)
  else if x.op = 25 ∨ x.op = 26 then inR x.a own.params (own.slots - 1) && inR x.b 0 ((own.instrs.length : Int) - 1)
  else true
def dT (cs : List aT) (nc : Nat) (o : List Int) (k : Nat) (own : aT) (x : aD) : Bool := decide (dn x) && cz cs nc o k own x
theorem uB {cs : List aT} {nc : Nat} {o : List Int} {k : Nat} {own : aT} {x : aD} (h : dT cs nc o k own x = true) : cU own.instrs.length x = true := by
  obtain ⟨op, a, b, t⟩ := x
  unfold dT at h
  rw [Bool.and_eq_true, decide_eq_true_eq] at h
  obtain ⟨h0, h2⟩ := h
  have h1 := h0.1
  clear h0
  unfold cU
  rw [mr, List.all_map]
  simp only [inR, decide_eq_true_eq] at h1
  unfold cz at h2
  dsimp only at h2 h1 ⊢
  have h3 : inR op 1 26 = true := pQ h1
  rw [h3, ← wb]
  simp only [cr]
  have hc : op = 1 ∨ op = 2 ∨ op = 3 ∨ op = 4 ∨ op = 5 ∨ op = 6 ∨ op = 7 ∨ op = 8 ∨ op = 9 ∨ op = 10 ∨ op = 11 ∨ op = 12 ∨ op = 13 ∨ op = 14 ∨ op = 15 ∨ op = 16 ∨ op = 17 ∨ op = 18 ∨ op = 19 ∨ op = 20 ∨ op = 21 ∨ op = 22 ∨ op = 23 ∨ op = 24 ∨ op = 25 ∨ op = 26 := by omega
  clear h1 h3
  rcases hc with rfl | rfl | rfl | rfl | rfl | rfl | rfl | rfl | rfl | rfl | rfl | rfl | rfl | rfl | rfl | rfl | rfl | rfl | rfl | rfl | rfl | rfl | rfl | rfl | rfl | rfl
  all_goals first
    | rfl
    | (simp at h2; simp [h2, lG]; done)
    | (simp at h2; simp [h2.1, h2.2, lG]; done)
theorem lx {cs : List aT} {nc : Nat} {o : List Int} {k : Nat} {own : aT} (h : ∀ y ∈ own.instrs, dT cs nc o k own y = true) : gO own.instrs = true := by
  unfold gO
  rw [List.all_eq_true]
  exact fun x hx => uB (h x hx)
def fX (cs : List aT) (i : Nat) (x : aD) : Prop := x.op = 15 → (0 ≤ x.a ∧ x.a ≤ (i : Int) - 1) ∧ ∃ y, cs[x.a.toNat]? = some y ∧ y.block = true
theorem lF {n i : Nat} (hi : i < n) : ∀ {r : List aD} {o o' : List Int}, jq i r o = some o' → cB n o → ∀ x ∈ r, x.op = 15 → (0 ≤ x.a ∧ x.a ≤ (i : Int) - 1) ∧ 0 ≤ gd o' x.a
  | [], o, o', h, ho, x, hx, _ => by cases hx
  | y :: r, o, o', h, ho, x, hx, h15 => by
    unfold jq at h
    split at h
    · cases h
    · rename_i o1 h1
      obtain ⟨h2, h3⟩ := jO hi h1 ho
      rcases List.mem_cons.1 hx with rfl | hx
      · unfold ud at h1
        rw [if_pos h15] at h1
        split at h1
        · rename_i h4
          cases h1
          refine ⟨h4.1, ?_⟩
          obtain ⟨a, ha⟩ : ∃ a : Nat, x.a = a := ⟨x.a.toNat, by omega⟩
          have h5 := (eR hi h h2).2 a
          rw [ha] at h5 ⊢
          refine h5 ?_
          rw [Int.toNat_natCast, iG (by rw [ho.1]; omega)]
          omega
        · cases h1
      · exact lF hi h h2 x hx h15
theorem nz {n : Nat} : ∀ {r : List aT} {i : Nat} {o o' : List Int}, i + r.length ≤ n → o5 i r o = some o' → cB n o → ∀ (j : Nat) (c : aT), r[j]? = some c → ∀ x ∈ c.instrs, x.op = 15 → (0 ≤ x.a ∧ x.a ≤ ((i + j : Nat) : Int) - 1) ∧ 0 ≤ gd o' x.a
  | [], i, o, o', _, h, ho, j, c, hc, x, hx, _ => by simp at hc
  | y :: r, i, o, o', hn, h, ho, j, c, hc, x, hx, h15 => by
    unfold o5 at h
    split at h
    · cases h
    · rename_i o1 h1
      simp only [List.length_cons] at hn
      obtain ⟨h2, h3⟩ := eR (by omega) h1 ho
      cases j with
      | zero =>
        simp at hc; subst hc
        obtain ⟨h4, h5⟩ := lF (by omega) h1 ho x hx h15
        refine ⟨h4, ?_⟩
        have h6 := (iF (by omega) h h2).2 x.a.toNat
        rw [Int.toNat_of_nonneg h4.1] at h6
        exact h6 h5
      | succ j =>
        have := nz (by omega) h h2 j c (by simpa using hc) x hx h15
        rw [show i + 1 + j = i + (j + 1) by omega] at this
        exact this
theorem mX {cs : List aT} {o : List Int} (h : dy cs = some o) {i : Nat} {c : aT} (hc : cs[i]? = some c) : ∀ x ∈ c.instrs, fX cs i x := fun x hx h15 => by
  obtain ⟨h1, h2⟩ := gK h
  have hi : i < cs.length := (List.getElem?_eq_some_iff.1 hc).1
  obtain ⟨h3, h4⟩ := nz (by simp) h1 (fd _) i c (by simpa using hc) x hx h15
  rw [Nat.zero_add] at h3
  refine ⟨h3, ?_⟩
  obtain ⟨a, ha⟩ : ∃ a : Nat, x.a = a := ⟨x.a.toNat, by omega⟩
  rw [ha] at h3 h4 ⊢
  rw [Int.toNat_natCast]
  have hal : a < cs.length := by omega
  refine ⟨cs[a], List.getElem?_eq_getElem hal, ?_⟩
  rw [h2 a hal]
  exact decide_eq_true h4
def mV (x : aT) : Prop := inR x.slots 0 30 = true ∧ inR x.params 0 x.slots = true ∧ x.instrs.length ≤ 900
def et (cs : List aT) (nc : Nat) (o : List Int) (k : Nat) (x : aT) : Prop := mV x ∧ (∀ y ∈ x.instrs, dT cs nc o k x y = true) ∧ (bP x.instrs).isSome = true
open Classical in
noncomputable def tb (cs : List aT) (nc : Nat) (o : List Int) (k : Nat) (x : aT) : Bool := decide (et cs nc o k x)
def mY (cs : List aT) (nc : Nat) (o : List Int) : Prop := ∀ (k : Nat) (h : k < cs.length), et cs nc o k cs[k]
def pW (cs : List aT) (nc : Nat) : Prop := ∃ o, dy cs = some o ∧ mY cs nc o
def tN (x : ba) : Prop := inR x.main 0 ((x.codes.length : Int) - 1) = true ∧ mP x.codes x.main 0
def eo (x : ba) : Prop := bO x.classes = true ∧ x.codes.length ≤ 200 ∧ tN x ∧ d8 x.classes.length x.codes x.entries = true ∧ pW x.codes x.classes.length
open Classical in
noncomputable def cI (x : ba) : Bool := decide (eo x)
open Classical in
theorem lW {x : ba} (h : ¬ eo x) : cI x = false := decide_eq_false h
open Classical in
theorem lO {x : ba} (h : eo x) : cI x = true := decide_eq_true h
open Classical in
theorem uZ {cs : List aT} {nc : Nat} {o : List Int} {k : Nat} {x : aT} (h : ¬ et cs nc o k x) : tb cs nc o k x = false := decide_eq_false h
open Classical in
theorem ub {cs : List aT} {nc : Nat} {o : List Int} {k : Nat} {x : aT} (h : et cs nc o k x) : tb cs nc o k x = true := decide_eq_true h
theorem dW {o : List Int} {j : Nat} (h : j < o.length) : (bv o)[j]? = some [.int .i64 (gd o (j : Int))] := by
  simp [bv, gd, h]
theorem gm (o : List Int) : ∀ (n : Nat) (k : Int), upN o (n + 1) k = if upN o n k < 0 then upN o n k else gd o (upN o n k)
  | 0, k => rfl
  | n + 1, k => by
    by_cases h : k < 0
    · rw [mb o _ h, mb o _ h, if_pos h]
    · have h1 : upN o (n + 1 + 1) k = upN o (n + 1) (gd o k) := by conv => lhs; unfold upN
                                                                   rw [if_neg h]
      have h2 : upN o (n + 1) k = upN o n (gd o k) := by conv => lhs; unfold upN
                                                         rw [if_neg h]
      rw [h1, h2]
      exact gm o n (gd o k)
theorem oH {o : List Int} (hinv : cB o.length o) : ∀ (n : Nat) (k : Int), k = -1 ∨ (0 ≤ k ∧ k < o.length) → upN o n k = -1 ∨ (0 ≤ upN o n k ∧ upN o n k < o.length)
  | 0, k, h => h
  | n + 1, k, h => by
    rw [gm]
    have := oH hinv n k h
    split
    · exact this
    · obtain ⟨j, hj⟩ : ∃ j : Nat, upN o n k = j := ⟨(upN o n k).toNat, by omega⟩
      rw [hj] at this ⊢
      have := hinv.2 j (by omega)
      omega
theorem wG {o : List Int} (hinv : cB o.length o) {k : Int} (hk : 0 ≤ k ∧ k < o.length) : ∀ n : Nat, 0 ≤ upN o n k → (n : Int) ≤ upN o n k
  | 0, h => h
  | n + 1, h => by
    rw [gm] at h ⊢
    have hin := oH hinv n k (.inr hk)
    split
    · rename_i h1; rw [if_pos h1] at h; omega
    · rename_i h1
      rw [if_neg h1] at h
      have ih := wG hinv hk n (by omega)
      obtain ⟨j, hj⟩ : ∃ j : Nat, upN o n k = j := ⟨(upN o n k).toNat, by omega⟩
      rw [hj] at h hin ih ⊢
      have := hinv.2 j (by omega)
      omega
theorem oh {o : List Int} {k : Int} {n : Nat} (h : upN o n k < 0) : ∀ m, n ≤ m → upN o m k = upN o n k
  | 0, hm => by obtain rfl : n = 0 := by omega
                rfl
  | m + 1, hm => by
    by_cases he : n = m + 1
    · rw [he]
    · have := oh h m (by omega)
      rw [gm, this, if_pos h]
theorem o8 {cs : List aT} {o : List Int} {k : Nat} {b : Int} (h : b < 0) : dI cs o k b = none := by
  unfold dI
  exact if_neg (by omega)
theorem pj {cs : List aT} {o : List Int} {k n : Nat} {b : Int} (h : upN o n k < 0) (hn : (n : Int) ≤ b) : dI cs o k b = none := by
  unfold dI
  rw [oh h b.toNat (by omega)]
  exact if_neg (by omega)
theorem qZ {cs : List aT} {o : List Int} {k j : Nat} {b : Int} {y : aT} (hb : 0 ≤ b) (h : upN o b.toNat k = j) (hj : cs[j]? = some y) : dI cs o k b = some y := by
  unfold dI
  rw [h, if_pos ⟨hb, by omega⟩, Int.toNat_natCast, hj]
theorem r6 {cs : List aT} {o : List Int} {k : Nat} (hinv : cB cs.length o) (hk : k < cs.length) {b : Int} {L : List Int} (hL : L = (eM o cs.length k).reverse) (h : 0 ≤ b ∧ b ≤ (L.length : Int) - 1) :
    ∃ (q v : Nat) (y : aT), (L.length : Int) - 1 - b = q ∧ (bv L)[q]? = some [.int .i64 (v : Int)] ∧ cs[v]? = some y ∧ dI cs o k b = some y := by
  obtain ⟨c, rfl⟩ : ∃ c : Nat, b = c := ⟨b.toNat, by omega⟩
  have hl : o.length = cs.length := hinv.1
  have hinv' : cB o.length o := by rw [hl]; exact hinv
  have hcl : L.length = (eM o cs.length k).length := by rw [hL, List.length_reverse]
  have hcu := jQ hinv' cs.length (k : Int) c (.inr ⟨by omega, by omega, by rw [hl]; omega⟩)
  have hc : c < (eM o cs.length k).length := by omega
  rw [List.getElem?_eq_getElem hc] at hcu
  split at hcu
  · rename_i h0
    have hin := oH hinv' c k (.inr ⟨by omega, by omega⟩)
    obtain ⟨v, hv⟩ : ∃ v : Nat, upN o c k = v := ⟨(upN o c k).toNat, by omega⟩
    rw [hv] at hin hcu
    have hvl : v < cs.length := by omega
    refine ⟨L.length - 1 - c, v, cs[v], by omega, ?_, List.getElem?_eq_getElem hvl, qZ (by omega) (by rw [Int.toNat_natCast]; exact hv) (List.getElem?_eq_getElem hvl)⟩
    have hg : L[L.length - 1 - c]? = some (v : Int) := by
      rw [hL, List.getElem?_reverse (by rw [List.length_reverse]; omega), List.length_reverse]
      rw [show (eM o cs.length k).length - 1 - ((eM o cs.length k).length - 1 - c) = c by omega, List.getElem?_eq_getElem hc]
      exact hcu
    simp only [bv, List.getElem?_map, hg]; rfl
  · cases hcu
theorem ln {cs : List aT} {o : List Int} {k : Nat} (hinv : cB cs.length o) (hk : k < cs.length) {b : Int} {L : List Int} (hL : L = (eM o cs.length k).reverse) (h : ¬ (0 ≤ b ∧ b ≤ (L.length : Int) - 1)) : dI cs o k b = none := by
  by_cases h0 : b < 0
  · exact o8 h0
  obtain ⟨c, rfl⟩ : ∃ c : Nat, b = c := ⟨b.toNat, by omega⟩
  have hl : o.length = cs.length := hinv.1
  have hinv' : cB o.length o := by rw [hl]; exact hinv
  have hcl : L.length = (eM o cs.length k).length := by rw [hL, List.length_reverse]
  have hcu := jQ hinv' cs.length (k : Int) c (.inr ⟨by omega, by omega, by rw [hl]; omega⟩)
  rw [List.getElem?_eq_none (by omega)] at hcu
  split at hcu
  · cases hcu
  · rename_i h1
    unfold dI
    rw [Int.toNat_natCast]
    exact if_neg fun h => h1 h.2
set_option maxHeartbeats 2000000 in
theorem tT {G : World → Prop} (op : Int) : Ct Tryz.prog G 192 [.int .i64 op] (fun _ => .tup [.bool (yF op), .bool (yf op), .bool (yA op)]) := by
  refine aJ Tryz.func192 rfl Tryz.ntmps192 rfl rfl fun w0 _ hG => ?_
  repeat' (first | with_reducible refine ab rfl ?_ | ((with_reducible apply o_y); exact y_; rfl) | with_reducible refine ag ?_ | with_reducible refine aa ?_ | with_reducible refine ah ?_ | with_reducible refine ac ?_ | with_reducible refine ai ?_ | with_reducible refine ap ?_ | with_reducible refine au ?_ | with_reducible refine ad ?_ | with_reducible refine ak ?_ | with_reducible refine aB ?_ | (refine ae rfl rr_ dd_ ?_) | (refine bD rfl rr_ (fun hc => ?_) (fun hc => ?_)))
  all_goals
    refine uu x_ rfl (.tmp _ _ rfl) (.tmp _ _ rfl) (.tmp _ _ rfl) (fun _ => ?_) (fun _ => ?_) (fun _ => ?_)
    all_goals
      refine aZ ?_
      simp only [yF, yf, yA]
      symm
      first | (rw [decide_eq_true_iff]; omega) | (rw [decide_eq_false_iff_not]; omega)
def GL (w : World) : Prop := oB w
theorem cZ : aY GL := ⟨fun _ _ h hb => oB.below h hb⟩
theorem yU (s : ByteArray) (hs : s.size ≤ 1048576) : Ct Tryz.prog GL 183 [.str s] (fun _ => .int .i64 (bS s.data.toList)) := lH fun w _ => jc s w hs
theorem y8 (s : ByteArray) (hs : s.size ≤ 1048576) : Ct Tryz.prog GL 182 [.str s] (fun _ => .bool (cm s.data.toList)) := fc fun w _ => dv s w hs
theorem zB (s : ByteArray) (hs : s.size ≤ 1048576) : Ct Tryz.prog GL 119 [.str s] (fun _ => .int .i64 (bS s.data.toList)) := lH fun w hG => mw s w hs hG
theorem zA (s : ByteArray) (hs : s.size ≤ 1048576) : Ct Tryz.prog GL 118 [.str s] (fun _ => .bool (cm s.data.toList)) := fc fun w hG => li s w hs hG
theorem ue (r : Option (List Int)) : ∀ y : Nat × Nat, True → (∀ s b o, (s, b, o) ∈ dO r y → j9 (dO r y) o) ∧ iI (dO r y) (dR r y) := fun y _ =>
  ⟨fun s b o h => by
    simp only [dO, List.mem_singleton, Prod.mk.injEq] at h
    obtain ⟨_, _, rfl⟩ := h
    exact vr (hU _), .tup _ fun t ht => by
    simp only [List.mem_cons, List.not_mem_nil, or_false] at ht
    rcases ht with rfl | rfl
    · exact .ms _ _ _ _ _ _ List.mem_cons_self
    · exact .flat _ rfl⟩
theorem ik (lo : Nat) (is : List aD) : df is = is.map (aD.tw lo) := rfl
end Go.Proofs.YthpdkhejeookhaaGreatDoor
