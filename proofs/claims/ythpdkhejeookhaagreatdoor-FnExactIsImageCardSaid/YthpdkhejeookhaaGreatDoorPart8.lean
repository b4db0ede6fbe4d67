/- Part 8 of the proof: the texts SdB, SdC, IvB, Sel2, Sel3, IvC, IvD, IvE, IvP, SdD, Rep, SdE. -/
import Derived.Test.YthpdkhejeookhaaGreatDoorPart6
import Derived.Test.YthpdkhejeookhaaGreatDoorPart7
import Derived.Test.YthpdkhejeookhaaGreatDoorPart1
import Derived.Laws.CopyOwn
import Derived.IntWalk
import Derived.Deep.RegionHeld3
/- StackDepths by the engine: the reference's l16Depths. -/
namespace Go.Proofs.YthpdkhejeookhaaGreatDoor
set_option maxRecDepth 20000
open Go Go.RowKit
def df (is : List aD) : List (List TV) := is.map aD.tv
theorem gZ (is : List aD) : (df is).length = is.length := by simp [df]
def fG (n i : Nat) : List Int := List.replicate i (-1) ++ List.replicate (n - i) 0
theorem lX {n i : Nat} (h : i < n) : (bv (fG n i))[i]? = some [.int .i64 0] ∧ (bv (fG n i)).set i [.int .i64 (-1)] = bv (fG n (i + 1)) := by
  have e : n - i = (n - (i + 1)) + 1 := by omega
  refine ⟨?_, ?_⟩
  · simp only [bv, fG, List.getElem?_map]
    rw [List.getElem?_append_right (by simp), e, List.replicate_succ]; simp
  · simp only [bv, fG]
    rw [e, List.replicate_succ, ← List.map_set]
    congr 1
    rw [List.set_append_right _ _ (by simp)]
    simp [List.replicate_succ', List.append_assoc]
def dO (r : Option (List Int)) (y : Nat × Nat) : bp := [(y.1, y.2, .row 1 (bv (r.getD [])))]
def dR (r : Option (List Int)) (y : Nat × Nat) : TV := .tup [.ms y.1 y.2 0 (r.getD []).length, .bool r.isSome]
set_option maxRecDepth 4000 in
set_option maxHeartbeats 4000000 in
theorem jk {G : World → Prop} (hst : aY G) (hca : ∀ s : ByteArray, s.size ≤ 1048576 → Ct Tryz.prog G 183 [.str s] (fun _ => .int .i64 (bS s.data.toList))) (lo l2 : Nat) (bl : Bool) (pr sl : Int) (is : List aD) (hn : is.length ≤ 1048576) (ht : ∀ i ∈ is, i.text.size ≤ 1048576) (hp : gO is = true) :
    CtM Tryz.prog G 134 [.cp lo [.bool bl, .int .i64 pr, .int .i64 sl, .sl l2 4 (df is)]] [] (fun _ : Nat × Nat => True) (dO (cG is)) (dR (cG is)) := by
  refine bB Tryz.func134 rfl Tryz.ntmps134 rfl rfl rfl fun w0 R gs objsR hG hR => ?_
  obtain rfl := hR.inv0
  have hlen := gZ is
  repeat' (first | ((with_reducible apply o_y); exact y_; rfl) | (refine eQ ?_; intro ss bb) | with_reducible refine ab rfl ?_ | (with_reducible first | apply ag | apply aa | apply ah | apply ac | apply ai))
  have h0 : (List.replicate is.length [TV.int .i64 0]) = bv (fG is.length 0) := by simp [fG, bv]
  apply aK (X := Nat) [0, 4, 1000000] (fun i => [(5, .int .i64 (i : Int))]) (fun i => (ss, bb, .row 1 (bv (fG is.length i))) :: R) (fun i => i ≤ is.length) (fun i => is.length - i) 0 (Nat.zero_le _)
  exact kp_; (repeat (first | exact bj.envNil | refine bj.envCons we_ ?_))
  · rw [← h0]; exact .refl _
  intro i hi
  try dsimp only at hi ⊢
  by_cases hlt : i < is.length
  · obtain ⟨hrow, hset⟩ := lX hlt
    repeat' (first | ((with_reducible apply o_y); exact y_; rfl) | refine cE ?_ | with_reducible refine ab rfl ?_ | (with_reducible first | apply ag | apply aa | apply ah | apply ac | apply ai | apply ap | apply aB) | (refine ae rfl rr_ dd_ ?_))
    rw [hset]
    refine aG (i + 1) (by omega) (by omega) (.of _ nw_ od_ (.refl _))
  · obtain rfl : i = is.length := by omega
    by_cases hz : is.length = 0
    · have hd : cG is = none := by unfold cG; rw [if_pos hz]
      rw [hd]
      repeat' (first | ((with_reducible apply o_y); exact y_; rfl) | (refine la ?_; intro ss bb) | with_reducible refine ab rfl ?_ | (with_reducible first | apply ag | apply aa | apply ah | apply ac | apply aH | apply au | apply ar | apply aq | apply ad) | (refine ae rfl rr_ dd_ ?_) | (refine aj rfl rr_ dd_ ?_))
      refine dG 2 1 (by omega) rfl fun ss => cT x_ rfl (ss, 0) trivial rfl (.cons _ _ _ _ (.nil R)) pk_ (.tmp _ _ rfl) (.tmp _ _ rfl) rfl
    · have hrow0 : (bv (fG is.length is.length))[0]? = some [.int .i64 (-1)] := by
        simp only [fG, bv, List.getElem?_map]
        rw [List.getElem?_append_left (by simp; omega), List.getElem?_replicate, if_pos (by omega)]; rfl
      have hset0 : (bv (fG is.length is.length)).set 0 [.int .i64 0] = bv (0 :: List.replicate (is.length - 1) (-1)) := by
        have e : is.length = (is.length - 1) + 1 := by omega
        simp only [fG, bv, Nat.sub_self, List.replicate_zero, List.append_nil]
        rw [e, List.replicate_succ]; rfl
      have hnz : 0 < is.length := by omega
      have hdS : nj is (ny is) is.length (0 :: List.replicate (is.length - 1) (-1)) [0] = cG is := by unfold cG; rw [if_neg hz]
      generalize ss = sd; generalize bb = bd
      repeat' (first | ((with_reducible apply o_y); exact y_; rfl) | (refine la ?_; intro ss bb) | refine cE ?_ | with_reducible refine ab rfl ?_ | (with_reducible first | apply ag | apply aa | apply ah | apply ac | apply ai | apply aH | apply ap | apply ar | apply aq) | (refine aj rfl rr_ dd_ ?_))
      generalize ss = st; generalize bb = bt
      rw [hset0]
      apply aK (X := Nat × List Int × List Nat × Nat × Nat) [0, 4, 1000000] (fun x => [(6, .ms st x.2.2.2.1 0 x.2.2.1.length), (7, .int .i64 (x.1 : Int))]) (fun x => (st, x.2.2.2.1, .row 1 (bv (nts x.2.2.1))) :: (sd, bd, .row 1 (bv x.2.1)) :: R)
        (fun x => x.1 ≤ x.2.2.1.length ∧ x.1 + x.2.2.2.2 ≤ is.length ∧ DSt is.length x.2.1 (x.2.2.1.drop x.1) x.2.2.2.2 ∧ nj is (ny is) x.2.2.2.2 x.2.1 (x.2.2.1.drop x.1) = cG is) (fun x => x.2.2.2.2) (0, 0 :: List.replicate (is.length - 1) (-1), [0], bt, is.length) ⟨Nat.zero_le _, by simp, jK (by omega), hdS⟩
      exact kp_; (repeat (first | exact bj.envNil | refine bj.envCons we_ ?_))
      · exact .refl _
      rintro ⟨k, ds, td, bt, f⟩ ⟨hk, hkf, hD, hfl⟩
      dsimp only at hk hkf hD hfl ⊢
      by_cases hlt : k < td.length
      · have hg : (bv (nts td))[k]? = some [.int .i64 ((td[k] : Nat) : Int)] := by simp [bv, nts, hlt]
        rw [List.drop_eq_getElem_cons hlt] at hD hfl
        obtain ⟨j, rfl, hD', hpn, hg0⟩ := hD.pop
        rw [fH _ _ _ _ _ hpn] at hfl
        have hrange := hD'.inv.gd (td[k] : Nat)
        have hdl := hD'.len
        have hdi : (bv ds)[td[k]]? = some [.int .i64 (gd ds (td[k] : Nat))] := by
          have h9 := lV (ds := ds) (p := td[k]) (by omega)
          simp only [bv, List.getElem?_map]
          rw [List.getElem?_eq_getElem (by omega), h9]; rfl
        have hii : (df is)[td[k]]? = some (is[td[k]]).tv := by simp only [df, List.getElem?_map]; rw [List.getElem?_eq_getElem hpn]; rfl
        have hpi : cU is.length is[td[k]] = true := List.all_eq_true.1 hp _ (List.getElem_mem _)
        have hti := ht _ (List.getElem_mem hpn)
        generalize is[td[k]] = ii at hfl hii hpi hti
        obtain ⟨op, a, b, t⟩ := ii
        have her := fS ⟨op, a, b, t⟩
        have hop : inR op 1 26 = true := by simp only [cU, Bool.and_eq_true] at hpi; exact hpi.1.1
        have hef := nC hst hca op a b t hti hop
        replace hii : (df is)[td[k]]? = some [.int .i64 op, .int .i64 a, .int .i64 b, .str t] := hii
        have htd : td.length ≤ is.length := by have h9 := hD'.mu; simp at h9; omega
        generalize hp' : td[k] = p at *
        have hstep : ny is ⟨op, a, b, t⟩ p ds = if gd ds p - (aD.eff ⟨op, a, b, t⟩).1 < 0 ∨ 250 < gd ds p - (aD.eff ⟨op, a, b, t⟩).1 + (aD.eff ⟨op, a, b, t⟩).2 then none else gp is p op (aD.nexts ⟨op, a, b, t⟩ p (gd ds p)) (ds, []) := rfl
        have hst1 := fun ds' new h => wl (i := ⟨op, a, b, t⟩) (ds' := ds') (new := new) hpi hD' (by omega) h
        have hnn := uT (n := is.length) ⟨op, a, b, t⟩ p (gd ds p) hpi
        have hnl := n8 ⟨op, a, b, t⟩ p (gd ds p)
        have hnx : aD.nexts ⟨op, a, b, t⟩ p (gd ds p) = aD.nexts ⟨op, a, b, t⟩ p (gd ds p) := rfl
        conv at hnx => rhs; unfold aD.nexts
        dsimp only at hnx
        generalize aD.nexts ⟨op, a, b, t⟩ p (gd ds p) = L at *
        generalize gd ds (p : Int) = g at *
        generalize he1 : (aD.eff ⟨op, a, b, t⟩).1 = e1 at *
        generalize he2 : (aD.eff ⟨op, a, b, t⟩).2 = e2 at *
        simp only [inR, decide_eq_true_eq] at hop
        repeat' (first | ((with_reducible apply o_y); exact y_; rfl) | (refine la ?_; intro ss bb) | (refine aI ?_; intro ss bb) | refine aA ?_ | refine aw hG hst (hef) ?_ | with_reducible refine oS (id := 4) ?_ | with_reducible refine ab rfl ?_ | (with_reducible first | apply ag | apply aa | apply ah | apply ac | apply ai | apply ap | apply au | apply ad | apply ak) | refine aP rfl rfl rfl rr_ ?_ | refine aO rfl rfl rfl rr_ rfl rfl rfl ?_ | (refine bm rfl rfl rfl rr_ (fun hg => ?_) (fun hg => ?_)) | refine av rfl rr_ ?_ | (refine ae rfl rr_ dd_ ?_) | (refine bD rfl rr_ (fun hc => ?_) (fun hc => ?_)))
        · have hd : cG is = none := by rw [hstep, if_pos (.inl hg)] at hfl; exact hfl.symm
          rw [hd]
          refine dG 2 1 (by omega) rfl fun ss => cT x_ rfl (ss, 0) trivial rfl (.cons _ _ _ _ (.nil R)) pk_ (.tmp _ _ rfl) (.tmp _ _ rfl) rfl
        · have hd : cG is = none := by rw [hstep, if_pos (.inr hc)] at hfl; exact hfl.symm
          rw [hd]
          refine dG 2 1 (by omega) rfl fun ss => cT x_ rfl (ss, 0) trivial rfl (.cons _ _ _ _ (.nil R)) pk_ (.tmp _ _ rfl) (.tmp _ _ rfl) rfl
        refine ⟨?_⟩
        rw [hstep, if_neg (by omega)] at hfl
        rw [if_neg (by omega)] at hstep
        rename_i s9 b9 s13 b13
        generalize ss = s14; generalize bb = b14
        apply en (X := Nat × Nat × Nat × Nat × List Int) [0, 4, 6, 7, 8, 9, 1000000] (fun x => [(13, .ms x.1 x.2.1 0 L.length), (14, .ms x.2.2.1 x.2.2.2.1 0 (L.length + x.2.2.2.2.length))])
          (fun x => (x.1, x.2.1, .row 1 (bv (L.map Prod.fst))) :: (x.2.2.1, x.2.2.2.1, .row 1 (bv (L.map Prod.snd ++ x.2.2.2.2))) :: (s9, b9, .box [.int .i64 op, .int .i64 a, .int .i64 b, .str t]) :: (st, bt, .row 1 (bv (nts td))) :: (sd, bd, .row 1 (bv ds)) :: R) (fun x => True)
        case hk => (repeat (first | exact gn.nil | (apply gn.cons; rfl)))
        · clear hfl hst1 hD hD' hstep
          by_cases h19 : op = 19
          · obtain rfl : L = [] := by rw [hnx, if_pos h19]
            repeat' (first | ((with_reducible apply o_y); exact y_; rfl) | (refine la ?_; intro ss bb) | with_reducible refine ab rfl ?_ | (with_reducible first | apply ag | apply aa | apply ah | apply ac | apply ai | apply aB) | (refine ae rfl rr_ dd_ ?_))
            refine dh (ss, bb, s14, b14, [g - e1 + e2]) trivial (.of _ nw_ od_ pk_)
          by_cases h20 : op = 20
          · obtain rfl : L = [(a, g - e1 + e2)] := by rw [hnx, if_neg h19, if_pos h20]
            repeat' (first | ((with_reducible apply o_y); exact y_; rfl) | (refine la ?_; intro ss bb) | with_reducible refine ab rfl ?_ | (with_reducible first | apply ag | apply aa | apply ah | apply ac | apply ai | apply aB) | (refine ae rfl rr_ dd_ ?_) | (refine aj rfl rr_ dd_ ?_))
            refine dh (ss, bb, s14, b14, []) trivial (.of _ nw_ od_ pk_)
          by_cases h21 : op = 21 ∨ op = 22
          · obtain rfl : L = [((p : Int) + 1, g - e1 + e2), (a, g - e1 + e2), (b, g - e1 + e2 + 1)] := by rw [hnx, if_neg h19, if_neg h20, if_pos h21]
            have he0 : e2 = 0 := by
              rw [← he2]; rcases h21 with rfl | rfl <;> rfl
            subst he0
            rcases h21 with rfl | rfl
            all_goals
              repeat' (first | ((with_reducible apply o_y); exact y_; rfl) | refine dk ?_ | (refine oU ?_; intro bb) | with_reducible refine ab rfl ?_ | (with_reducible first | apply ag | apply aa | apply ah | apply ac | apply ai | apply ap | apply aB) | (refine ae rfl rr_ dd_ ?_) | (refine aj rfl rr_ dd_ ?_))
              rename_i bb13
              refine dh (s13, bb13, s14, bb, []) trivial (.of _ nw_ od_ pk_)
          by_cases h24 : op = 24 ∨ op = 25
          · obtain rfl : L = [((p : Int) + 1, g - e1 + e2), (b, g - 1)] := by rw [hnx, if_neg h19, if_neg h20, if_neg h21, if_pos h24]
            have he0 : e1 = 2 := by
              rw [← he1]; rcases h24 with rfl | rfl <;> rfl
            subst he0
            rcases h24 with rfl | rfl
            all_goals
              repeat' (first | ((with_reducible apply o_y); exact y_; rfl) | refine dk ?_ | (refine oU ?_; intro bb) | with_reducible refine ab rfl ?_ | (with_reducible first | apply ag | apply aa | apply ah | apply ac | apply ai | apply ap | apply aB) | (refine ae rfl rr_ dd_ ?_) | (refine aj rfl rr_ dd_ ?_))
              rename_i bb13
              refine dh (s13, bb13, s14, bb, []) trivial (.of _ nw_ od_ pk_)
          by_cases h26 : op = 26
          · obtain rfl : L = [((p : Int) + 1, g - e1 + e2), (b, g)] := by rw [hnx, if_neg h19, if_neg h20, if_neg h21, if_neg h24, if_pos h26]
            have he0 : e1 = 2 := by
              rw [← he1, h26]; rfl
            subst he0
            repeat' (first | ((with_reducible apply o_y); exact y_; rfl) | refine dk ?_ | (refine oU ?_; intro bb) | with_reducible refine ab rfl ?_ | (with_reducible first | apply ag | apply aa | apply ah | apply ac | apply ai | apply aB) | (refine ae rfl rr_ dd_ ?_) | (refine aj rfl rr_ dd_ ?_))
            rename_i bb13
            refine dh (s13, bb13, s14, bb, []) trivial (.of _ nw_ od_ pk_)
          · obtain rfl : L = [((p : Int) + 1, g - e1 + e2)] := by rw [hnx, if_neg h19, if_neg h20, if_neg h21, if_neg h24, if_neg h26]
            repeat' (first | ((with_reducible apply o_y); exact y_; rfl) | with_reducible refine ab rfl ?_ | (with_reducible first | apply ag | apply aa | apply ah | apply ac | apply ai | apply ap | apply aB) | (refine aj rfl rr_ dd_ ?_))
            refine dh (s13, b13, s14, b14, []) trivial (.of _ nw_ od_ pk_)
        · rintro ⟨s13', b13', s14', b14', r14⟩ _
          dsimp only
          rw [hstep] at hst1
          clear hnx he1 he2 her hef hpi hstep hD hD'
          repeat' (first | ((with_reducible apply o_y); exact y_; rfl) | with_reducible refine ab rfl ?_ | (with_reducible first | apply ag | apply aa | apply ah | apply ac | apply ai))
          apply aK (X := Nat × List Int × List Nat × Nat) [0, 4, 7, 8, 9, 13, 14, 1000000] (fun x => [(15, .int .i64 (x.1 : Int)), (6, .ms st x.2.2.2 0 (td.length + x.2.2.1.length))])
            (fun x => (s13', b13', .row 1 (bv (L.map Prod.fst))) :: (s14', b14', .row 1 (bv (L.map Prod.snd ++ r14))) :: (s9, b9, .box [.int .i64 op, .int .i64 a, .int .i64 b, .str t]) :: (st, x.2.2.2, .row 1 (bv (nts (td ++ x.2.2.1)))) :: (sd, bd, .row 1 (bv x.2.1)) :: R)
            (fun x => x.1 ≤ L.length ∧ x.2.1.length = is.length ∧ x.2.2.1.length ≤ x.1 ∧ gp is p op (L.drop x.1) (x.2.1, x.2.2.1) = gp is p op L (ds, [])) (fun x => L.length - x.1) (0, ds, [], bt) ⟨Nat.zero_le _, hdl, Nat.zero_le _, rfl⟩
          exact kp_; (repeat (first | exact bj.envNil | refine bj.envCons we_ ?_))
          · rw [List.append_nil]; exact .refl _
          rintro ⟨q, ds', new, bt'⟩ ⟨hq, hdl', hnw, hpu⟩
          dsimp only at hq hdl' hnw hpu ⊢
          by_cases hql : q < L.length
          · have hu0 := hnn _ (List.getElem_mem hql)
            rw [List.drop_eq_getElem_cons hql] at hpu
            have hr13 : (bv (L.map Prod.fst))[q]? = some [.int .i64 L[q].1] := by simp [bv, hql]
            have hr14 : (bv (L.map Prod.snd ++ r14))[q]? = some [.int .i64 L[q].2] := by
              simp only [bv, List.getElem?_map]
              rw [List.getElem?_append_left (by simpa using hql)]; simp [hql]
            generalize L[q] = uv at hu0 hpu hr13 hr14
            obtain ⟨u, v⟩ := uv
            obtain ⟨un, rfl⟩ : ∃ un : Nat, u = (un : Int) := ⟨u.toNat, by dsimp only at hu0; omega⟩
            dsimp only at hr13 hr14
            rw [rU] at hpu
            repeat' (first | ((with_reducible apply o_y); exact y_; rfl) | with_reducible refine bx (id := 40) ?_ | with_reducible refine ab rfl ?_ | (with_reducible first | apply ag | apply aa | apply ah | apply ac | apply ai | apply ap) | (refine ae rfl rr_ dd_ ?_))
            refine ⟨ag ?_⟩
            apply en (X := Unit) [0, 4, 6, 7, 8, 9, 13, 14, 15, 1000000] (fun _ => [(170, .bool (rR is p op (un : Int)))])
              (fun _ => (s13', b13', .row 1 (bv (L.map Prod.fst))) :: (s14', b14', .row 1 (bv (L.map Prod.snd ++ r14))) :: (s9, b9, .box [.int .i64 op, .int .i64 a, .int .i64 b, .str t]) :: (st, bt', .row 1 (bv (nts (td ++ new)))) :: (sd, bd, .row 1 (bv ds')) :: R) (fun _ => True)
            case hk => (repeat (first | exact gn.nil | (apply gn.cons; rfl)))
            · clear hpu hfl hst1
              by_cases hlen1 : (is.length : Int) ≤ (un : Int)
              · have hb : rR is p op (un : Int) = true := by simp [rR, hlen1]
                rw [hb]
                repeat' (first | with_reducible refine aF (by kernel_rfl) (by kernel_rfl) ?_ | with_reducible refine aN ?_ | with_reducible refine aE rfl ?_ | refine aV rfl rfl rfl rr_ rfl rfl rfl ?_ | refine jJ rfl rfl rfl rr_ rfl rfl ?_ | (refine cF rfl rfl rfl rr_ dd_ ?_) | ((with_reducible apply d_y); exact y_; rfl))
                refine dh () trivial (.of _ nw_ od_ pk_)
              have hun : un < is.length := by omega
              have hri : (df is)[un]? = some (is[un]).tv := by simp only [df, List.getElem?_map]; rw [List.getElem?_eq_getElem hun]; rfl
              have hoa : yh is (un : Int) = is[un].op := by simp [yh, hun]
              generalize is[un] = iu at hri hoa
              obtain ⟨op', a', b', t'⟩ := iu
              replace hri : (df is)[un]? = some [.int .i64 op', .int .i64 a', .int .i64 b', .str t'] := hri
              have hbs : rR is p op (un : Int) = (!decide (op = 26) && decide ((un : Int) ≤ p) && !decide (op' = 23)) := by simp [rR, eY, hlen1, hoa]
              rw [hbs]
              have hw3 : op = 26 ∨ (¬ op = 26 ∧ (un : Int) ≤ p) ∨ (¬ op = 26 ∧ ¬ (un : Int) ≤ p) := by omega
              rcases hw3 with h26 | ⟨h26, hle⟩ | ⟨h26, hle⟩
              all_goals
                repeat' (first | with_reducible refine aF (by kernel_rfl) (by kernel_rfl) ?_ | with_reducible refine aN ?_ | with_reducible refine aE rfl ?_ | refine aX rfl rfl rfl rr_ ?_ | refine aV rfl rfl rfl rr_ rfl rfl rfl ?_ | (refine cF rfl rfl rfl rr_ dd_ ?_) | (refine bW rfl rfl rfl rr_ dd_ ?_) | ((with_reducible apply d_y); exact y_; rfl))
                refine dh () trivial (.of _ nw_ od_ pk_)
            · intro _ _
              by_cases hbad : rR is p op (un : Int) = true
              · have hd : cG is = none := by rw [if_pos hbad] at hpu; rw [← hpu] at hfl; exact hfl.symm
                rw [hd, hbad]
                repeat' (first | with_reducible refine ab rfl ?_ | ((with_reducible apply jR); rfl; rfl) | with_reducible refine ag ?_ | with_reducible refine aa ?_ | with_reducible refine ah ?_ | with_reducible refine ac ?_ | with_reducible refine au ?_ | with_reducible refine ad ?_ | with_reducible refine ak ?_ | refine av rfl rr_ ?_)
                refine dG 2 1 (by omega) rfl fun ss => cT x_ rfl (ss, 0) trivial rfl (.cons _ _ _ _ (.nil R)) pk_ (.tmp _ _ rfl) (.tmp _ _ rfl) rfl
              have hun : un < is.length := Nat.lt_of_not_le fun h => hbad (by simp [rR]; left; omega)
              rw [if_neg hbad] at hpu
              rw [Bool.not_eq_true] at hbad
              rw [hbad]
              have hrd : (bv ds')[un]? = some [.int .i64 (gd ds' (un : Int))] := by
                have h9 := lV (ds := ds') (p := un) (by omega)
                simp only [bv, List.getElem?_map]
                rw [List.getElem?_eq_getElem (by omega), h9]; rfl
              have hll : (bv (nts (td ++ new))).length = td.length + new.length := by simp [bv, nts]
              by_cases hgd : gd ds' (un : Int) = -1
              · rw [if_pos hgd] at hpu
                rw [hgd] at hrd
                repeat' (first | ((with_reducible apply o_y); exact y_; rfl) | (with_reducible apply mc (id := 43) 10; kernel_rfl; kernel_rfl; kernel_rfl; (repeat (first | exact Cut.zero _ | apply Cut.succ))) | with_reducible refine pL ?_ | with_reducible refine aE rfl ?_ | ((with_reducible apply d_y); exact y_; rfl) | refine cE ?_ | refine dk ?_ | (refine oU ?_; intro bb) | with_reducible refine ab rfl ?_ | (with_reducible first | apply ag | apply aa | apply ah | apply ac | apply ap | apply aB) | refine az rfl rr_ ?_ | (refine ae rfl rr_ dd_ ?_))
                refine aG (q + 1, ds'.set un v, new ++ [un], bb) ⟨by dsimp only; omega, by simp [hdl'], by simp; omega, by dsimp only; rw [← hpu]; rfl⟩ (by dsimp only; omega) (.of _ nw_ od_ pk_)
              · rw [if_neg hgd] at hpu
                by_cases hgv : gd ds' (un : Int) = v
                · rw [if_pos hgv] at hpu
                  repeat' (first | ((with_reducible apply o_y); exact y_; rfl) | with_reducible refine aF (by kernel_rfl) (by kernel_rfl) ?_ | with_reducible refine aN ?_ | with_reducible refine aE rfl ?_ | ((with_reducible apply d_y); exact y_; rfl) | with_reducible refine ab rfl ?_ | (with_reducible first | apply ag | apply aa | apply ah | apply ac | apply ap | apply aB) | refine az rfl rr_ ?_ | (refine aj rfl rr_ dd_ ?_))
                  refine aG (q + 1, ds', new, bt') ⟨by dsimp only; omega, hdl', by dsimp only; omega, by dsimp only; exact hpu⟩ (by dsimp only; omega) (.of _ nw_ od_ pk_)
                · rw [if_neg hgv] at hpu
                  have hd : cG is = none := by rw [← hpu] at hfl; exact hfl.symm
                  rw [hd]
                  repeat' (first | ((with_reducible apply o_y); exact y_; rfl) | with_reducible refine aF (by kernel_rfl) (by kernel_rfl) ?_ | with_reducible refine aN ?_ | with_reducible refine aE rfl ?_ | ((with_reducible apply d_y); exact y_; rfl) | with_reducible refine ab rfl ?_ | (with_reducible first | apply ag | apply aa | apply ah | apply ac | apply ap | apply au | apply ad | apply ak) | refine az rfl rr_ ?_ | (refine ae rfl rr_ dd_ ?_) | (refine aj rfl rr_ dd_ ?_))
                  refine dG 2 1 (by omega) rfl fun ss => cT x_ rfl (ss, 0) trivial rfl (.cons _ _ _ _ (.nil R)) pk_ (.tmp _ _ rfl) (.tmp _ _ rfl) rfl
          · rw [List.drop_of_length_le (by omega)] at hpu
            rw [← hpu] at hfl
            dsimp only [gp] at hfl
            repeat' (first | ((with_reducible apply o_y); exact y_; rfl) | with_reducible refine ab rfl ?_ | (with_reducible first | apply ag | apply aa | apply ah | apply ac | apply aH | apply ar | apply aq | apply aB) | (refine aj rfl rr_ dd_ ?_))
            refine aG (k + 1, ds', td ++ new, bt', j) ⟨by simp; omega, by dsimp only; omega, ?_, ?_⟩ (by dsimp only; omega) (.of _ nw_ od_ pk_)
            · dsimp only
              rw [List.drop_append_of_le_length (by omega)]
              exact hst1 ds' new hpu.symm
            · dsimp only
              rw [List.drop_append_of_le_length (by omega)]; exact hfl
      · rw [List.drop_eq_nil_of_le (by omega)] at hfl
        have hd : cG is = some ds := by rw [← hfl]; simp [nj]
        have hdl := hD.len
        rw [hd]
        repeat' (first | ((with_reducible apply o_y); exact y_; rfl) | with_reducible refine ab rfl ?_ | (with_reducible first | apply ag | apply aa | apply ah | apply ac | apply aH | apply au | apply ar | apply aq) | (refine aj rfl rr_ dd_ ?_))
        refine cT x_ rfl (sd, bd) trivial rfl (.cons _ _ _ _ (.nil R)) pk_ (.tmp _ _ rfl) (.tmp _ _ rfl) (by simp [dR, hdl])
set_option maxRecDepth 20000
theorem bz {G : World → Prop} (n a b : Int) : Ct Tryz.prog G 54 [.int .i64 n, .int .i64 a, .int .i64 b] (fun _ => .bool (inR n a b)) := by
  refine aJ Tryz.func54 rfl Tryz.ntmps54 rfl rfl fun w0 _ hG => ?_
  repeat' (first | with_reducible refine ab rfl ?_ | ((with_reducible apply o_y); exact y_; rfl) | with_reducible refine ag ?_ | with_reducible refine aa ?_ | with_reducible refine ah ?_ | with_reducible refine ac ?_ | with_reducible refine au ?_ | refine aP rfl rfl rfl rr_ ?_ | refine aO rfl rfl rfl rr_ rfl rfl rfl ?_ | (refine bm rfl rfl rfl rr_ (fun hg => ?_) (fun hg => ?_)))
  all_goals
    refine ao x_ rfl (.tmp _ _ rfl) (fun _ => ?_)
    refine aZ ?_
    simp only [inR]
    first | (rw [decide_eq_decide]; omega) | (symm; rw [decide_eq_false_iff_not]; omega)
theorem a7 {G : World → Prop} (n a b : Int) : Ct Tryz.prog G 57 [.int .i64 n, .int .i64 a, .int .i64 b] (fun _ => .bool (inR n a b)) := by
  refine aJ Tryz.func57 rfl Tryz.ntmps57 rfl rfl fun w0 _ hG => ?_
  repeat' (first | with_reducible refine ab rfl ?_ | ((with_reducible apply o_y); exact y_; rfl) | with_reducible refine ag ?_ | with_reducible refine aa ?_ | with_reducible refine ah ?_ | with_reducible refine ac ?_ | with_reducible refine au ?_ | refine aP rfl rfl rfl rr_ ?_ | refine aO rfl rfl rfl rr_ rfl rfl rfl ?_ | (refine bm rfl rfl rfl rr_ (fun hg => ?_) (fun hg => ?_)))
  all_goals
    refine ao x_ rfl (.tmp _ _ rfl) (fun _ => ?_)
    refine aZ ?_
    simp only [inR]
    first | (rw [decide_eq_decide]; omega) | (symm; rw [decide_eq_false_iff_not]; omega)
def yF (op : Int) : Bool := decide (op = 1 ∨ op = 12 ∨ op = 15 ∨ op = 20 ∨ op = 8 ∨ op = 9 ∨ op = 21 ∨ op = 22 ∨ op = 25 ∨ op = 26 ∨ op = 14)
def yf (op : Int) : Bool := decide (op = 8 ∨ op = 9 ∨ op = 21 ∨ op = 22 ∨ op = 25 ∨ op = 26 ∨ op = 24)
def yA (op : Int) : Bool := decide (op = 2 ∨ op = 3 ∨ op = 10 ∨ op = 11 ∨ op = 13 ∨ op = 14)
set_option maxHeartbeats 2000000 in
theorem rT {G : World → Prop} (op : Int) : Ct Tryz.prog G 226 [.int .i64 op] (fun _ => .tup [.bool (yF op), .bool (yf op), .bool (yA op)]) := by
  refine aJ Tryz.func226 rfl Tryz.ntmps226 rfl rfl fun w0 _ hG => ?_
  repeat' (first | with_reducible refine ab rfl ?_ | ((with_reducible apply o_y); exact y_; rfl) | with_reducible refine ag ?_ | with_reducible refine aa ?_ | with_reducible refine ah ?_ | with_reducible refine ac ?_ | with_reducible refine ai ?_ | with_reducible refine ap ?_ | with_reducible refine au ?_ | with_reducible refine ad ?_ | with_reducible refine ak ?_ | with_reducible refine aB ?_ | (refine ae rfl rr_ dd_ ?_) | (refine bD rfl rr_ (fun hc => ?_) (fun hc => ?_)))
  all_goals
    refine uu x_ rfl (.tmp _ _ rfl) (.tmp _ _ rfl) (.tmp _ _ rfl) (fun _ => ?_) (fun _ => ?_) (fun _ => ?_)
    all_goals
      refine aZ ?_
      simp only [yF, yf, yA]
      symm
      first | (rw [decide_eq_true_iff]; omega) | (rw [decide_eq_false_iff_not]; omega)
set_option maxRecDepth 20000
theorem mB {i : Nat} {x : am} (hx : bH[i]? = some x) : ((i = 0 → x.parent = -1) ∧ (i = 2 → x.parent = 1) ∧ (i = 3 → x.parent = 2) ∧ (i = 4 → x.parent = 2) ∧ (i ≠ 0 → i ≠ 2 → i ≠ 3 → i ≠ 4 → x.parent = 0)) ∧ (i < 16) := by
  have hi : i < 16 := by
    have := (List.getElem?_eq_some_iff.1 hx).1
    rwa [ef] at this
  refine ⟨?_, hi⟩
  match i, hi, hx with
  | 0, _, hx => cases hx; simp
  | 1, _, hx => cases hx; simp
  | 2, _, hx => cases hx; simp
  | 3, _, hx => cases hx; simp
  | 4, _, hx => cases hx; simp
  | 5, _, hx => cases hx; simp
  | 6, _, hx => cases hx; simp
  | 7, _, hx => cases hx; simp
  | 8, _, hx => cases hx; simp
  | 9, _, hx => cases hx; simp
  | 10, _, hx => cases hx; simp
  | 11, _, hx => cases hx; simp
  | 12, _, hx => cases hx; simp
  | 13, _, hx => cases hx; simp
  | 14, _, hx => cases hx; simp
  | 15, _, hx => cases hx; simp
  | n + 16, h, _ => omega
def mE (lo : Nat) : List ByteArray → TV
  | [] => .nils
  | a :: l => .sl lo 1 (cL (a :: l))
def am.twN (lo : Nat) (x : am) : List TV := [.str x.name, .int .i64 x.parent, mE lo x.fields]
theorem qB (B K : Nat) (objs : bp) : ∀ l : List ByteArray, Fin B objs K (mE B l) (.sl K 1 (cL l))
  | [] => .nils 1
  | a :: l => ci (f := fun s : ByteArray => [TV.str s]) (f' := fun s : ByteArray => [TV.str s]) (fun _x => .cons (.flat rfl) .nil) (a :: l)
theorem am.finN (B K : Nat) (objs : bp) (x : am) : fR B objs K (x.twN B) (x.tw K) := .cons (.flat rfl) (.cons (.flat rfl) (.cons (qB B K objs x.fields) .nil))
section
variable {G : World → Prop}
theorem ee (hst : aY G) : Ct Tryz.prog G 187 [] (fun K => .sl K 3 (bH.map (am.tw K))) := by
  refine aJ Tryz.func187 rfl Tryz.ntmps187 rfl rfl fun w0 _ hG => ?_
  have hlen : (cL cj).length = 16 := rfl
  have hbl : cj.length = 16 := rfl
  repeat' (first | ((with_reducible apply o_y); exact y_; rfl) | refine aw hG hst (kO) ?_ | (refine la ?_; intro ss bb) | with_reducible refine ab rfl ?_ | (with_reducible first | apply ag | apply aa | apply ah | apply ac | apply ai))
  apply aK (X := Nat × Nat) [6, 7] (fun x => [(8, .int .i64 (x.1 : Int)), (1, .ms ss x.2 0 x.1)]) (fun x => [(ss, x.2, .row 3 ((bH.take x.1).map (am.twN w0.heap.size)))]) (fun x => x.1 ≤ 16) (fun x => 16 - x.1) (0, bb) (Nat.zero_le _)
  exact kp_; (repeat (first | exact bj.envNil | refine bj.envCons we_ ?_))
  · exact .refl _
  rintro ⟨i, b⟩ hi
  dsimp only at hi ⊢
  by_cases hlt : i < 16
  · obtain ⟨x, hx, h1, _, h3, h4⟩ := ga hlt
    obtain ⟨hp, _⟩ := mB hx
    have hle : ((bH.take i).map (am.twN w0.heap.size)).length = i := by rw [List.length_map, List.length_take, ef]; omega
    by_cases hf : 1 ≤ i ∧ i ≤ 4
    · have hin : inR (i : Int) 1 4 = true := by unfold inR; simp; omega
      have hw : Ct Tryz.prog G 57 [.int .i64 i, .int .i64 1, .int .i64 4] (fun _ => .bool true) := by rw [← hin]; exact a7 _ _ _
      have hbf : fb (i : Int) = [⟨#[116, 101, 120, 116]⟩] := if_pos (by omega)
      rw [hbf] at h3
      have hrow : ∀ p : Int, p = x.parent → (bH.take i).map (am.twN w0.heap.size) ++ [[TV.str x.name, .int .i64 p, .sl w0.heap.size 1 [[TV.str ⟨#[116, 101, 120, 116]⟩]]]] = (bH.take (i + 1)).map (am.twN w0.heap.size) := fun p h => by
        rw [h4, List.map_append, h]; show _ ++ _ = _ ++ [[_, _, mE w0.heap.size x.fields]]; rw [← h3]; rfl
      clear h4
      repeat' (first | ((with_reducible apply o_y); exact y_; rfl) | (refine aI ?_; intro ss bb) | refine je ?_ | refine aA ?_ | refine aw hG hst (hw) ?_ | refine dk ?_ | (refine oU ?_; intro bb) | with_reducible refine ab rfl ?_ | (with_reducible first | apply ag | apply aa | apply ah | apply ac | apply ai | apply ap | apply aB) | refine aP rfl rfl rfl rr_ ?_ | refine aO rfl rfl rfl rr_ rfl rfl rfl ?_ | (refine bm rfl rfl rfl rr_ (fun hg => ?_) (fun hg => ?_)) | refine av rfl rr_ ?_ | (refine ae rfl rr_ dd_ ?_) | (refine aj rfl rr_ dd_ ?_) | (refine bD rfl rr_ (fun hc => ?_) (fun hc => ?_)))
      all_goals
        rw [hrow]
        · exact aG (i + 1, bb) (by dsimp only; omega) (by dsimp only; omega) (.of _ nw_ od_ pk_)
        · omega
    · have hin : inR (i : Int) 1 4 = false := by unfold inR; simp; omega
      have hw : Ct Tryz.prog G 57 [.int .i64 i, .int .i64 1, .int .i64 4] (fun _ => .bool false) := by rw [← hin]; exact a7 _ _ _
      have hbf : fb (i : Int) = [] := if_neg (by omega)
      rw [hbf] at h3
      have hrow : ∀ p : Int, p = x.parent → (bH.take i).map (am.twN w0.heap.size) ++ [[TV.str x.name, .int .i64 p, .nils]] = (bH.take (i + 1)).map (am.twN w0.heap.size) := fun p h => by
        rw [h4, List.map_append, h]; show _ ++ _ = _ ++ [[_, _, mE w0.heap.size x.fields]]; rw [← h3]; rfl
      clear h4
      repeat' (first | ((with_reducible apply o_y); exact y_; rfl) | (refine aI ?_; intro ss bb) | refine je ?_ | refine aA ?_ | refine aw hG hst (hw) ?_ | refine dk ?_ | (refine oU ?_; intro bb) | with_reducible refine ab rfl ?_ | (with_reducible first | apply ag | apply aa | apply ah | apply ac | apply ai | apply ap | apply aB) | refine aP rfl rfl rfl rr_ ?_ | (refine bC rfl rfl rfl rr_ dd_ ?_) | refine az rfl rr_ ?_ | (refine ae rfl rr_ dd_ ?_) | (refine aj rfl rr_ dd_ ?_) | (refine bD rfl rr_ (fun hc => ?_) (fun hc => ?_)))
      all_goals
        rw [hrow]
        · exact aG (i + 1, bb) (by dsimp only; omega) (by dsimp only; omega) (.of _ nw_ od_ pk_)
        · omega
  · obtain rfl : i = 16 := by omega
    repeat' (first | ((with_reducible apply o_y); exact y_; rfl) | with_reducible refine ab rfl ?_ | (with_reducible first | apply ag | apply aa | apply ah | apply ac | apply aH | apply au | apply ar | apply aq) | (refine aj rfl rr_ dd_ ?_))
    refine ao x_ rfl (.tmp _ _ rfl) (fun _ => ?_)
    exact eZ (f' := am.tw _) (fun x => am.finN _ _ _ x) List.mem_cons_self
end

def xA (l : List UInt8) (w w' : World) (e : Ending) : Prop :=
  Below w.heap.size w w' ∧ match kwL l with
    | some ps => ∃ b o c, e = .returned (.slice (some ⟨b, o, none⟩) ps.length c)
    | none => e = .returned (.slice none 0 0)

theorem oz (s : ByteArray) : Lib.hasSuffix s.data.toList [58] = decide (s.data.toList.getLast? = some 58) := by
  rw [Bool.eq_iff_iff, decide_eq_true_iff]
  simp only [Lib.hasSuffix, List.isSuffixOf_iff_suffix, List.getLast?_eq_some_iff]
  exact ⟨fun ⟨t, h⟩ => ⟨t, h.symm⟩, fun ⟨t, h⟩ => ⟨t, h.symm⟩⟩

set_option maxHeartbeats 800000 in
theorem jV (s : ByteArray) (w : World) (hs : s.size ≤ 1048576) (hm : oB w) : Calls Tryz.prog 191 #[.string s] w fun e w' => xA s.data.toList w w' e := by
  have hsuf := oz s
  cases hc : Lib.hasSuffix s.data.toList [58]
  · have hk : kwL s.data.toList = none := by
      rw [hsuf, decide_eq_false_iff_not] at hc
      unfold kwL; rw [if_neg hc]
    clear hsuf
    have Hk := Lib.hid hk
    clear hk
    go_enter Tryz.func191, Tryz.ntmps191
    go_wp2_with (go_at_call 234; refine (Tryz.strings_HasSuffix _ _ _ (by omega)).mono ?_; rintro e w' ⟨rfl, hw⟩; obtain rfl := hw.symm)
    go_ret
    exact ⟨Below.refl _ _, by rw [Hk.out]; rfl⟩
  · have hl : s.data.toList.getLast? = some 58 := by rw [hsuf, decide_eq_true_iff] at hc; exact hc
    have hpos : 0 < s.size := by
      rw [← bG]
      cases hx : s.data.toList with
      | nil => rw [hx] at hl; cases hl
      | cons => simp
    have Hl := Lib.hid hl
    clear hsuf hl
    have hsz1 : (1 : Int) ≤ s.size := by omega
    have hst : (s.extract 0 (s.size - 1)).data.toList = s.data.toList.dropLast := by
      rw [jw, List.dropLast_eq_take, bG]
    have hs1 : (s.extract 0 (s.size - 1)).size ≤ 1048576 := by rw [ByteArray.size_extract]; omega
    obtain ⟨mm, hmm⟩ := hm
    have hspl : (Lib.splitB ⟨#[58]⟩ 0 (Lib.countB (s.extract 0 (s.size - 1)) ⟨#[58]⟩) (s.extract 0 (s.size - 1))).map (·.data.toList) = spl 58 s.data.toList.dropLast := by
      rw [Lib.splitB_data, hst]
      have h1 : Lib.countB (s.extract 0 (s.size - 1)) ⟨#[58]⟩ = s.data.toList.dropLast.count 58 := by
        rw [← hst]; exact Lib.count_one 58 _
      rw [h1]
      exact nV 58 _
    have Hst := Lib.hid hst
    have Hspl := Lib.hid hspl
    clear hst hspl
    have hlen : Lib.countB (s.extract 0 (s.size - 1)) ⟨#[58]⟩ + 1 = (Lib.splitB ⟨#[58]⟩ 0 (Lib.countB (s.extract 0 (s.size - 1)) ⟨#[58]⟩) (s.extract 0 (s.size - 1))).length := (Lib.splitB_all ⟨#[58]⟩ (by decide) 0 _ _ rfl).symm
    have hcle := Lib.countB_le ⟨#[58]⟩ (by decide) (s.extract 0 (s.size - 1)).size _ (Nat.le_refl _)
    have hpl : (Lib.splitB ⟨#[58]⟩ 0 (Lib.countB (s.extract 0 (s.size - 1)) ⟨#[58]⟩) (s.extract 0 (s.size - 1))).length ≤ 1048576 := by
      rw [← hlen]; rw [ByteArray.size_extract] at hcle; omega
    have hpsz : ∀ p ∈ (Lib.splitB ⟨#[58]⟩ 0 (Lib.countB (s.extract 0 (s.size - 1)) ⟨#[58]⟩) (s.extract 0 (s.size - 1))), p.size ≤ 1048576 := by
      intro p hp
      have h1 : p.data.toList ∈ spl 58 s.data.toList.dropLast := by rw [← Hspl.out]; exact List.mem_map_of_mem (f := (·.data.toList)) hp
      have h2 := iH 58 _ _ h1
      rw [bG, List.length_dropLast, bG] at h2
      omega
    generalize hps : Lib.splitB ⟨#[58]⟩ 0 (Lib.countB (s.extract 0 (s.size - 1)) ⟨#[58]⟩) (s.extract 0 (s.size - 1)) = ps at Hspl
    go_enter Tryz.func191, Tryz.ntmps191
    go_wp2_with (go_at_call 234; refine (Tryz.strings_HasSuffix _ _ _ (by omega)).mono ?_; rintro e w' ⟨rfl, hw⟩; obtain rfl := hw.symm)
    refine (Tryz.strings_Split (s.extract 0 (s.size - 1)) ⟨#[58]⟩ mm _ (by omega) hmm (by decide)).mono ?_
    rintro e w' ⟨rfl, rfl⟩
    rw [hps]
    rw [hps] at hlen hpl hpsz
    rw [hlen]
    have hP := Lib.hid hpsz
    clear hps hlen hpsz hcle
    have hown := d9 (w := w) (S := (w.heap.size ≤ ·)) ps 9 (by simp only [maxLen]; omega) (Nat.le_refl _)
    have hb1 : Below w.heap.size w (w.alloc (.cells (ps.map Value.string).toArray 9)) := (Below.refl _ _).alloc (Nat.le_refl _) _
    generalize w.alloc (.cells (ps.map Value.string).toArray 9) = w1 at hown hb1
    have hsee := hown.seen
    clear hmm hown
    go_wp2_with fail
    have hkw : kwL s.data.toList = if (ps.all fun p => bM p.data.toList) && decide (ps.length ≤ 4) then some (spl 58 s.data.toList.dropLast) else none := by
      unfold kwL
      rw [if_pos Hl.out, ← Hspl.out, List.length_map, List.all_map]; rfl
    have hpl2 : (spl 58 s.data.toList.dropLast).length = ps.length := by rw [← Hspl.out, List.length_map]
    have Hkw := Lib.hid hkw
    have Hpl2 := Lib.hid hpl2
    clear hkw hpl2 hc hpos hsz1 hs1
    go_loopw [17] (fun i wr => ∃ k n : Nat, k ≤ ps.length ∧ i = .int .i64 k ∧ wr = w1.drewN n ∧ (ps.all fun p => bM p.data.toList) = (ps.drop k).all fun p => bM p.data.toList) (fun i _ => ps.length - (intOf i).toNat)
    case atStart => exact ⟨0, 0, Nat.zero_le _, rfl, rfl, rfl⟩
    case round =>
      obtain ⟨k, n, hk, rfl, rfl, hr⟩ := hrel
      have Hr := Lib.hid hr
      clear hr
      by_cases hlt : k < ps.length
      · obtain ⟨b, o, hA, _, hcell⟩ := hsee.str_at hlt
        simp only [Option.some.injEq, Addr.mk.injEq, and_true] at hA
        obtain ⟨rfl, rfl⟩ := hA
        rw [Nat.zero_add] at hcell
        have hsp := hP.out ps[k] (List.getElem_mem hlt)
        have hdr := List.drop_eq_getElem_cons hlt
        have Hdr := Lib.hid hdr
        clear hdr
        cases hq : bM ps[k].data.toList
        · go_wp2_with (go_at_call 230; refine (iX ps[k] _ hsp).mono ?_; rintro e w' ⟨rfl, m, rfl⟩)
          go_ret
          refine ⟨bw hb1 _, ?_⟩
          rw [Hkw.out, Hr.out, Hdr.out, List.all_cons, hq]
          rfl
        · go_wp2_with (go_at_call 230; refine (iX ps[k] _ hsp).mono ?_; rintro e w' ⟨rfl, m, rfl⟩)
          go_roundw
          case rel => exact ⟨k + 1, _, by omega, by go_num, rfl, by rw [Hr.out, Hdr.out, List.all_cons, hq]; rfl⟩
          case measure => simp [intOf]; omega
      · have hall : (ps.all fun p => bM p.data.toList) = true := by rw [Hr.out, List.drop_eq_nil_of_le (by omega)]; rfl
        have Hall := Lib.hid hall
        clear hall
        by_cases h4 : (ps.length : Int) ≤ 4
        · go_wp2
          go_ret
          refine ⟨bw hb1 _, ?_⟩
          rw [Hkw.out, Hall.out, decide_eq_true (by omega)]
          exact ⟨_, _, _, by rw [Hpl2.out]; rfl⟩
        · go_wp2
          go_ret
          refine ⟨bw hb1 _, ?_⟩
          rw [Hkw.out, Hall.out, decide_eq_false (by omega)]
          rfl

theorem jC (s : ByteArray) (w : World) (hs : s.size ≤ 1048576) (hm : oB w) (hk : kwL s.data.toList = none) : Calls Tryz.prog 191 #[.string s] w fun e w' => e = .returned (.slice none 0 0) ∧ Below w.heap.size w w' :=
  (jV s w hs hm).mono fun e w' ⟨hb, h⟩ => by rw [hk] at h; exact ⟨h, hb⟩
theorem fU (s : ByteArray) (w : World) (hs : s.size ≤ 1048576) (hm : oB w) (ps : List (List UInt8)) (hk : kwL s.data.toList = some ps) : Calls Tryz.prog 191 #[.string s] w fun e w' => ∃ b o c, e = .returned (.slice (some ⟨b, o, none⟩) ps.length c) ∧ Below w.heap.size w w' :=
  (jV s w hs hm).mono fun e w' ⟨hb, h⟩ => by rw [hk] at h; obtain ⟨b, o, c, h⟩ := h; exact ⟨b, o, c, h, hb⟩

set_option maxHeartbeats 800000 in
theorem li (s : ByteArray) (w : World) (hs : s.size ≤ 1048576) (hm : oB w) : Calls Tryz.prog 118 #[.string s] w fun e w' => e = .returned (.bool (cm s.data.toList)) ∧ Below w.heap.size w w' := by
  cases ho : iQ s.data.toList
  · cases hn : ce s.data.toList
    · cases hk : kwL s.data.toList with
      | none =>
        have Hk := Lib.hid hk
        clear hk
        go_enter Tryz.func118, Tryz.ntmps118
        go_wp2_with (first
          | (go_at_call 190; refine (bZ s _).mono ?_; rintro e w1 ⟨rfl, hb1⟩)
          | (go_at_call 189; refine (dC s _ hs).mono ?_; rintro e w2 ⟨rfl, n2, rfl⟩)
          | (go_at_call 191; refine (jC s _ hs (oB.below (w := w1) (hm.below hb1) (bw (Below.refl _ _) _)) Hk.out).mono ?_; rintro e w3 ⟨rfl, hb3⟩))
        go_ret
        exact ⟨bF (by rw [cm, ho, hn, Hk.out]; rfl), (bw hb1 _).trans (hb3.mono hb1.size)⟩
      | some ps =>
        have Hk := Lib.hid hk
        clear hk
        go_enter Tryz.func118, Tryz.ntmps118
        go_wp2_with (first
          | (go_at_call 190; refine (bZ s _).mono ?_; rintro e w1 ⟨rfl, hb1⟩)
          | (go_at_call 189; refine (dC s _ hs).mono ?_; rintro e w2 ⟨rfl, n2, rfl⟩)
          | (go_at_call 191; refine (fU s _ hs (oB.below (w := w1) (hm.below hb1) (bw (Below.refl _ _) _)) ps Hk.out).mono ?_; rintro e w3 ⟨b, o, c, rfl, hb3⟩))
        go_ret
        exact ⟨bF (by rw [cm, ho, hn, Hk.out]; rfl), (bw hb1 _).trans (hb3.mono hb1.size)⟩
    · go_enter Tryz.func118, Tryz.ntmps118
      go_wp2_with (first
        | (go_at_call 190; refine (bZ s _).mono ?_; rintro e w1 ⟨rfl, hb1⟩)
        | (go_at_call 189; refine (dC s _ hs).mono ?_; rintro e w2 ⟨rfl, n2, rfl⟩))
      go_ret
      exact ⟨bF (by rw [cm, ho, hn]; rfl), bw hb1 _⟩
  · go_enter Tryz.func118, Tryz.ntmps118
    go_wp2_with (go_at_call 190; refine (bZ s _).mono ?_; rintro e w1 ⟨rfl, hb1⟩)
    go_ret
    exact ⟨bF (by rw [cm, ho]; rfl), hb1⟩

set_option maxHeartbeats 800000 in
theorem mw (s : ByteArray) (w : World) (hs : s.size ≤ 1048576) (hm : oB w) : Calls Tryz.prog 119 #[.string s] w fun e w' => e = .returned (.int .i64 (bS s.data.toList)) ∧ Below w.heap.size w w' := by
  cases ho : iQ s.data.toList
  · cases hn : ce s.data.toList
    · cases hk : kwL s.data.toList with
      | none =>
        have Hk := Lib.hid hk
        clear hk
        go_enter Tryz.func119, Tryz.ntmps119
        go_wp2_with (first
          | (go_at_call 190; refine (bZ s _).mono ?_; rintro e w1 ⟨rfl, hb1⟩)
          | (go_at_call 189; refine (dC s _ hs).mono ?_; rintro e w2 ⟨rfl, n2, rfl⟩)
          | (go_at_call 191; refine (jC s _ hs (oB.below (w := w1) (hm.below hb1) (bw (Below.refl _ _) _)) Hk.out).mono ?_; rintro e w3 ⟨rfl, hb3⟩))
        go_ret
        exact ⟨ff (by rw [bS, ho, hn, Hk.out]; rfl), (bw hb1 _).trans (hb3.mono hb1.size)⟩
      | some ps =>
        have Hk := Lib.hid hk
        clear hk
        go_enter Tryz.func119, Tryz.ntmps119
        go_wp2_with fail
        refine (bZ s _).mono ?_
        rintro e w1 ⟨rfl, hb1⟩
        go_wp2_with fail
        refine (dC s _ hs).mono ?_
        rintro e w2 ⟨rfl, n2, rfl⟩
        have hm2 : oB (w1.drewN n2) := oB.below (w := w1) (hm.below hb1) (bw (Below.refl _ _) _)
        go_wp2_with fail
        refine (fU s _ hs hm2 ps Hk.out).mono ?_
        rintro e w3 ⟨b, o, c, rfl, hb3⟩
        have hm3 := hm2.below hb3
        go_wp2_with fail
        refine (fU s _ hs hm3 ps Hk.out).mono ?_
        rintro e w4 ⟨b4, o4, c4, rfl, hb4⟩
        go_wp2_with fail
        go_ret
        exact ⟨ff (by rw [bS, ho, hn, Hk.out]; rfl), ((bw hb1 _).trans (hb3.mono hb1.size)).trans (hb4.mono (Nat.le_trans hb1.size hb3.size))⟩
    · go_enter Tryz.func119, Tryz.ntmps119
      go_wp2_with (first
        | (go_at_call 190; refine (bZ s _).mono ?_; rintro e w1 ⟨rfl, hb1⟩)
        | (go_at_call 189; refine (dC s _ hs).mono ?_; rintro e w2 ⟨rfl, n2, rfl⟩))
      go_ret
      exact ⟨ff (by rw [bS, ho, hn]; rfl), bw hb1 _⟩
  · go_enter Tryz.func119, Tryz.ntmps119
    go_wp2_with (go_at_call 190; refine (bZ s _).mono ?_; rintro e w1 ⟨rfl, hb1⟩)
    go_ret
    exact ⟨ff (by rw [bS, ho]; rfl), hb1⟩


set_option maxHeartbeats 800000 in
theorem dv (s : ByteArray) (w : World) (hs : s.size ≤ 1048576) : Calls Tryz.prog 182 #[.string s] w fun e w' => e = .returned (.bool (cm s.data.toList)) ∧ Below w.heap.size w w' := by
  have Hsel := Lib.hid (i7 s.data.toList)
  have Hops := Lib.hid (mC s)
  have Hwords := Lib.hid (iV s)
  go_enter Tryz.func182, Tryz.ntmps182
  cases ho : iP lN s
  · go_wp2_with fail
    refine (eI _).mono ?_
    rintro e w1 ⟨rfl, rfl⟩
    go_wp2_with fail
    refine (ir _ 15 lN s _ (fun _ => True) (d9 lN _ (by decide) trivial).seen (by decide)).mono ?_
    rintro e w1 ⟨rfl, hq⟩
    have hb1 : Below w.heap.size w w1 := by
      obtain ⟨n, rfl⟩ := hq
      exact bw ((Below.refl _ _).alloc (Nat.le_refl _) _) _
    clear hq
    go_wp2_with fail
    refine (io s 58 w1 hs).mono ?_
    rintro e w2 ⟨ps, g, c, hps, rfl, hb2, how⟩
    have hB := hb1.trans (hb2.mono hb1.size)
    have hsee := how.seen
    have hlen : ps.length = (spl 58 s.data.toList).length := by rw [← hps, List.length_map]
    have hpos := j6 58 s.data.toList
    rw [← hlen] at hpos
    have Hps := Lib.hid hps
    have Hlen := Lib.hid hlen
    clear hps hlen how hb1 hb2
    have hle : ps.length ≤ 1048577 := by
      have := jd 58 s.data.toList
      rw [bG] at this
      have := Hlen.out
      omega
    have hcap : ps.length ≤ c := by simpa [i6] using hsee.1
    have hP : Hid (∀ p ∈ ps, p.size ≤ 1048576) := fun p hp => by
      have h1 : p.data.toList ∈ spl 58 s.data.toList := by rw [← Hps.out]; exact List.mem_map_of_mem (f := (·.data.toList)) hp
      have h2 := iH 58 _ _ h1
      rw [bG, bG] at h2
      omega
    have hspec : gF s.data.toList = if 1 < ps.length then (if (ps.getLast?.map (·.data.toList)) = some [] then ps.dropLast.all (fun p => bM p.data.toList) && decide (ps.length - 1 ≤ 4) else false) else bM s.data.toList && !fw s.data.toList := by
      unfold gF
      rw [← Hops.out, ho, ← Hlen.out, ← Hps.out, List.getLast?_map, ← List.map_dropLast, List.all_map]
      rfl
    have Hspec := Lib.hid hspec
    clear hspec
    by_cases h1 : (1 : Int) < ps.length
    · obtain ⟨b, o, hA, _, hcell⟩ := hsee.str_at (k := ps.length - 1) (by omega)
      simp only [Option.some.injEq, Addr.mk.injEq, and_true] at hA
      obtain ⟨rfl, rfl⟩ := hA
      rw [Nat.zero_add] at hcell
      cases he : (ps[ps.length - 1]).toList.isEmpty
      · have hlast : ¬ (ps.getLast?.map (·.data.toList)) = some [] := by
          rw [List.getLast?_eq_getElem?, List.getElem?_eq_getElem (by omega), Option.map_some, ← Lib.toList_data]
          intro h
          simp only [Option.some.injEq] at h
          rw [h] at he
          cases he
        have Hlast := Lib.hid hlast
        clear hlast
        go_wp2
        go_ret
        exact ⟨bF (by rw [← Hsel.out, Hspec.out, if_pos (by omega), if_neg Hlast.out]), hB⟩
      · have hlast : (ps.getLast?.map (·.data.toList)) = some [] := by
          rw [List.getLast?_eq_getElem?, List.getElem?_eq_getElem (by omega), Option.map_some, ← Lib.toList_data]
          rw [List.isEmpty_iff.1 he]
        have Hlast := Lib.hid hlast
        have hfin : gF s.data.toList = (ps.dropLast.all (fun p => bM p.data.toList) && decide (ps.length - 1 ≤ 4)) := by
          rw [Hspec.out, if_pos (by omega), if_pos hlast]
        have Hfin := Lib.hid hfin
        clear hlast hfin
        have h2 : (1 : Int) ≤ ps.length := by omega
        have h3 : (ps.length : Int) - 1 ≤ c := by omega
        have hn1 : ((ps.length : Int) == 1) = false := by simp; omega
        go_wp2_with fail
        go_loopw [5] (fun i wr => ∃ k n : Nat, k ≤ ps.length - 1 ∧ i = .int .i64 k ∧ wr = w2.drewN n ∧ (ps.dropLast.all fun p => bM p.data.toList) = (ps.dropLast.drop k).all fun p => bM p.data.toList) (fun i _ => ps.length - (intOf i).toNat)
        case atStart => exact ⟨0, 0, Nat.zero_le _, rfl, rfl, rfl⟩
        case round =>
          obtain ⟨k, n, hk, rfl, rfl, hr⟩ := hrel
          have Hr := Lib.hid hr
          clear hr
          by_cases hlt : k < ps.length - 1
          · obtain ⟨b, o, hA, _, hcellk⟩ := hsee.str_at (k := k) (by omega)
            simp only [Option.some.injEq, Addr.mk.injEq, and_true] at hA
            obtain ⟨rfl, rfl⟩ := hA
            rw [Nat.zero_add] at hcellk
            have hsp := hP.out ps[k] (List.getElem_mem (by omega))
            have hdr : ps.dropLast.drop k = ps[k] :: ps.dropLast.drop (k + 1) := by
              rw [List.drop_eq_getElem_cons (by simp; omega), List.getElem_dropLast]
            have Hdr := Lib.hid hdr
            clear hdr
            cases hq : bM ps[k].data.toList
            · go_wp2_with (go_at_call 222; refine (dQ ps[k] _ hsp).mono ?_; rintro e w' ⟨rfl, m, rfl⟩)
              go_ret
              exact ⟨bF (by rw [← Hsel.out, Hfin.out, Hr.out, Hdr.out, List.all_cons, hq]; rfl), bw hB _⟩
            · go_wp2_with (go_at_call 222; refine (dQ ps[k] _ hsp).mono ?_; rintro e w' ⟨rfl, m, rfl⟩)
              go_roundw
              case rel => exact ⟨k + 1, _, by omega, by go_num, rfl, by rw [Hr.out, Hdr.out, List.all_cons, hq]; rfl⟩
              case measure => simp [intOf]; omega
          · have hall : (ps.dropLast.all fun p => bM p.data.toList) = true := by rw [Hr.out, List.drop_eq_nil_of_le (by simp; omega)]; rfl
            have Hall := Lib.hid hall
            clear hall
            go_wp2
            go_ret
            exact ⟨bF (by rw [← Hsel.out, Hfin.out, Hall.out, Bool.true_and, decide_eq_decide]; omega), bw hB _⟩
    · have hone : ps.length = 1 := by omega
      obtain ⟨p, rfl⟩ := List.length_eq_one_iff.1 hone
      have hp : p = s := by
        have h2 := Hps.out
        have h3 := pU 58 s.data.toList (by rw [← Hlen.out]; rfl)
        rw [h3] at h2
        simp only [List.map_cons, List.map_nil, List.cons.injEq, and_true] at h2
        exact mJ h2
      subst hp
      have hfin : gF p.data.toList = (bM p.data.toList && !fw p.data.toList) := by rw [Hspec.out, if_neg (by simp)]
      have Hfin := Lib.hid hfin
      obtain ⟨b, o, hA, _, hcell⟩ := hsee.str_at (k := 0) (by simp)
      simp only [Option.some.injEq, Addr.mk.injEq, and_true, List.getElem_cons_zero] at hA hcell
      obtain ⟨rfl, rfl⟩ := hA
      rw [Nat.zero_add] at hcell
      clear hfin hone h1 hpos hle
      go_wp2_with fail
      go_loopw [5] (fun i wr => ∃ k : Nat, k ≤ 1 ∧ i = .int .i64 k ∧ Below w.heap.size w wr ∧ wr.cell? ⟨g, 0, none⟩ = some (.string p) ∧ (k = 0 ∨ ce p.data.toList = true)) (fun i _ => 1 - (intOf i).toNat)
      case atStart => exact ⟨0, by omega, rfl, hB, hcell, .inl rfl⟩
      case round =>
        obtain ⟨k, hk, rfl, hbr, hc, hr⟩ := hrel
        by_cases hlt : k < 1
        · obtain rfl : k = 0 := by omega
          have hgr : g < wr.heap.size := World.block_lt_of_cell? wr _ hc
          clear hr
          cases hq : bM p.data.toList
          · go_wp2_with (go_at_call 222; refine (dQ p _ hs).mono ?_; rintro e w' ⟨rfl, m, rfl⟩)
            go_ret
            exact ⟨bF (by rw [← Hsel.out, Hfin.out, hq]; rfl), bw hbr _⟩
          · go_wp2_with fail
            refine (dQ p _ hs).mono ?_
            rintro e w3 ⟨rfl, hq3⟩
            have hb3 := qI hq3
            have hbr3 := hbr.trans (hb3.mono hbr.size)
            have hc3 := (hb3.cell (p := ⟨g, 0, none⟩) hgr).trans hc
            clear hq3 hb3 hc
            go_wp2_with fail
            refine (qC _).mono ?_
            rintro e w4 ⟨rfl, rfl⟩
            go_wp2_with fail
            refine (ir _ 7 dP p _ (fun _ => True) (d9 dP _ (by decide) trivial).seen (by decide)).mono ?_
            rintro e w5 ⟨rfl, n5, rfl⟩
            have hb5 : Below w.heap.size w ((w3.alloc (.cells (dP.map Value.string).toArray 9)).drewN n5) := bw (hbr3.alloc hbr3.size _) _
            have hc5 : ((w3.alloc (.cells (dP.map Value.string).toArray 9)).drewN n5).cell? ⟨g, 0, none⟩ = some (.string p) := by
              show (w3.alloc _).cell? _ = _
              rw [World.cell?_alloc_lt w3 _ _ (World.block_lt_of_cell? w3 _ hc3)]; exact hc3
            generalize (w3.alloc (.cells (dP.map Value.string).toArray 9)).drewN n5 = w6 at hb5 hc5
            cases hw : iP dP p
            · go_wp2_with fail
              go_roundw
              case rel => exact ⟨1, by omega, rfl, hb5, hc5, .inr (by rw [ce, hq, ← Hwords.out, hw]; rfl)⟩
              case measure => simp [intOf]
            · go_wp2_with fail
              go_ret
              exact ⟨bF (by rw [← Hsel.out, Hfin.out, hq, ← Hwords.out, hw]; rfl), hb5⟩
        · obtain rfl : k = 1 := by omega
          have hn : ce p.data.toList = true := by
            rcases hr with h | h
            · cases h
            · exact h
          have Hn := Lib.hid hn
          clear hr hn
          go_wp2_with fail
          go_ret
          exact ⟨bF (by rw [← Hsel.out, Hfin.out]; exact Hn.out.symm), hbr⟩
  · go_wp2_with fail
    refine (eI _).mono ?_
    rintro e w1 ⟨rfl, rfl⟩
    go_wp2_with fail
    refine (ir _ 15 lN s _ (fun _ => True) (d9 lN _ (by decide) trivial).seen (by decide)).mono ?_
    rintro e w1 ⟨rfl, hq⟩
    have hb1 : Below w.heap.size w w1 := by
      obtain ⟨n, rfl⟩ := hq
      exact bw ((Below.refl _ _).alloc (Nat.le_refl _) _) _
    go_wp2
    go_ret
    exact ⟨bF (by rw [cm, ← Hops.out, ho]; rfl), hb1⟩


set_option maxHeartbeats 400000 in
theorem jc (s : ByteArray) (w : World) (hs : s.size ≤ 1048576) : Calls Tryz.prog 183 #[.string s] w fun e w' => e = .returned (.int .i64 (bS s.data.toList)) ∧ Below w.heap.size w w' := by
  have Hargs := Lib.hid (qu s.data.toList)
  have Hsel := Lib.hid (i7 s.data.toList)
  have Hops := Lib.hid (mC s)
  cases hq : cm s.data.toList
  · go_enter Tryz.func183, Tryz.ntmps183
    go_wp2_with fail
    refine (dv s w hs).mono ?_
    rintro e w1 ⟨rfl, hb1⟩
    go_wp2_with fail
    go_ret
    exact ⟨ff (by rw [← Hargs.out, il, Hsel.out, hq]; rfl), hb1⟩
  · cases ho : iP lN s
    all_goals
      go_enter Tryz.func183, Tryz.ntmps183
      go_wp2_with fail
      refine (dv s w hs).mono ?_
      rintro e w1 ⟨rfl, hb1⟩
      go_wp2_with fail
      refine (eI _).mono ?_
      rintro e w2 ⟨rfl, rfl⟩
      go_wp2_with fail
      refine (ir _ 15 lN s _ (fun _ => True) (d9 lN _ (by decide) trivial).seen (by decide)).mono ?_
      rintro e w3 ⟨rfl, hq3⟩
      have hb3 : Below w.heap.size w w3 := by
        obtain ⟨n, rfl⟩ := hq3
        exact bw (hb1.alloc hb1.size _) _
      go_wp2_with fail
    · refine (io s 58 w3 hs).mono ?_
      rintro e w4 ⟨ps, g, c, hps, rfl, hb4, how⟩
      have hlen : ps.length = (spl 58 s.data.toList).length := by rw [← hps, List.length_map]
      have hl2 := jd 58 s.data.toList
      rw [bG, ← hlen] at hl2
      have Hlen := Lib.hid hlen
      have hps' := Lib.hid hps
      clear hlen hps
      go_wp2_with fail
      go_ret
      exact ⟨ff (by rw [← Hargs.out, il, Hsel.out, hq, ← Hops.out, ho, ← Hlen.out]; rfl), hb3.trans (hb4.mono hb3.size)⟩
    · go_ret
      exact ⟨ff (by rw [← Hargs.out, il, Hsel.out, hq, ← Hops.out, ho]; rfl), hb3⟩

set_option maxRecDepth 20000
theorem oP {l : List ByteArray} {s : ByteArray} {i : Nat} (h : i < l.length) (e : l[i] = s) : iP l s = true := by
  unfold iP
  exact List.any_eq_true.2 ⟨_, List.getElem_mem h, by simp [e]⟩
theorem lK {l : List ByteArray} {s : ByteArray} (h : ∀ y ∈ l, y ≠ s) : iP l s = false := by
  unfold iP
  exact List.any_eq_false.2 fun y hy hb => h y hy (ByteArray.ext (Array.toList_inj.1 (by simpa [Lib.toList_data] using hb)))
theorem jo {a b : List ByteArray} {i : Nat} (ha : i < a.length) (hb : i < b.length) (h : a.take i = b.take i) (e : a[i] = b[i]) : a.take (i + 1) = b.take (i + 1) := by
  rw [List.take_add_one, List.take_add_one, h, List.getElem?_eq_getElem ha, List.getElem?_eq_getElem hb, e]
section
variable {G : World → Prop}
theorem qP (lo : Nat) (l : List ByteArray) (s : ByteArray) (hn : l.length ≤ 1048576) : Ct Tryz.prog G 35 [.sl lo 1 (cL l), .str s] (fun _ => .bool (iP l s)) := by
  refine aJ Tryz.func35 rfl Tryz.ntmps35 rfl rfl fun w0 _ hG => ?_
  have hlen := bX l
  repeat' (first | ((with_reducible apply o_y); exact y_; rfl) | with_reducible refine ab rfl ?_ | (with_reducible first | apply ag | apply aa | apply ah | apply ac | apply ai))
  apply aK (X := Nat) [0, 1] (fun i => [(5, .int .i64 (i : Int))]) (fun _ => []) (fun i => i ≤ l.length ∧ ∀ y ∈ l.take i, y ≠ s) (fun i => l.length - i) 0 ⟨Nat.zero_le _, by simp⟩
  exact kp_; (repeat (first | exact bj.envNil | refine bj.envCons we_ ?_))
  · exact .refl _
  rintro i ⟨hi, hs⟩
  try dsimp only
  by_cases hlt : i < l.length
  · have hrow := dr hlt
    have hta := bu (p := fun y => y ≠ s) hlt hs
    have htr := oP (s := s) hlt
    generalize l[i] = x at hrow hta htr
    by_cases hx : x = s
    · rw [htr hx]
      repeat' (first | ((with_reducible apply o_y); exact y_; rfl) | with_reducible refine ab rfl ?_ | (with_reducible first | apply ag | apply aa | apply ah | apply ac | apply ai | apply ap | apply au | apply ad | apply ak) | (refine ae rfl rr_ dd_ ?_))
      refine ao x_ rfl (.tmp _ _ rfl) (fun _ => ?_)
      exact Fin.flat rfl
    · repeat' (first | ((with_reducible apply o_y); exact y_; rfl) | with_reducible refine ab rfl ?_ | (with_reducible first | apply ag | apply aa | apply ah | apply ac | apply ai | apply ap | apply aB) | (refine ae rfl rr_ dd_ ?_) | (refine aj rfl rr_ dd_ ?_))
      exact aG (i + 1) ⟨by omega, hta hx⟩ (by omega) (.of _ nw_ od_ pk_)
  · rw [List.take_of_length_le (by omega)] at hs
    rw [lK hs]
    repeat' (first | ((with_reducible apply o_y); exact y_; rfl) | with_reducible refine ab rfl ?_ | (with_reducible first | apply ag | apply aa | apply ah | apply ac | apply aH | apply au | apply ar | apply aq) | (refine aj rfl rr_ dd_ ?_))
    refine ao x_ rfl (.tmp _ _ rfl) (fun _ => ?_)
    exact Fin.flat rfl
theorem fZ (l1 l2 : Nat) (a b : List ByteArray) (_hn : a.length ≤ 1048576) (hm : b.length ≤ 1048576) : Ct Tryz.prog G 180 [.sl l1 1 (cL a), .sl l2 1 (cL b)] (fun _ => .bool (decide (a = b))) := by
  refine aJ Tryz.func180 rfl Tryz.ntmps180 rfl rfl fun w0 _ hG => ?_
  have hla := bX a
  have hlb := bX b
  by_cases hl : a.length = b.length
  · repeat' (first | ((with_reducible apply o_y); exact y_; rfl) | with_reducible refine ab rfl ?_ | (with_reducible first | apply ag | apply aa | apply ah | apply ac | apply ai | apply ap) | (refine aj rfl rr_ dd_ ?_))
    apply aK (X := Nat) [0, 1] (fun i => [(5, .int .i64 (i : Int))]) (fun _ => []) (fun i => i ≤ a.length ∧ a.take i = b.take i) (fun i => a.length - i) 0 ⟨Nat.zero_le _, by simp⟩
    exact kp_; (repeat (first | exact bj.envNil | refine bj.envCons we_ ?_))
    · exact .refl _
    rintro i ⟨hi, hs⟩
    try dsimp only
    by_cases hlt : i < a.length
    · have hr1 := dr hlt
      have hlt2 : i < b.length := by omega
      have hr2 := dr hlt2
      have hta := jo hlt hlt2 hs
      have hne : a[i] ≠ b[i] → decide (a = b) = false := fun h => decide_eq_false fun e => h (by subst e; rfl)
      generalize a[i] = x at hr1 hta hne
      generalize b[i] = y at hr2 hta hne
      by_cases hx : x = y
      · have hx' : ¬ x ≠ y := fun h => h hx
        repeat' (first | ((with_reducible apply o_y); exact y_; rfl) | with_reducible refine aF (by kernel_rfl) (by kernel_rfl) ?_ | with_reducible refine aN ?_ | with_reducible refine aE rfl ?_ | ((with_reducible apply d_y); exact y_; rfl) | with_reducible refine ab rfl ?_ | (with_reducible first | apply ag | apply aa | apply ah | apply ac | apply ai | apply ap | apply aB) | (refine ae rfl rr_ dd_ ?_) | (refine aj rfl rr_ dd_ ?_))
        exact aG (i + 1) ⟨by omega, hta hx⟩ (by omega) (.of _ nw_ od_ pk_)
      · have hx' : x ≠ y := hx
        rw [hne hx]
        repeat' (first | ((with_reducible apply o_y); exact y_; rfl) | with_reducible refine aF (by kernel_rfl) (by kernel_rfl) ?_ | with_reducible refine aN ?_ | with_reducible refine aE rfl ?_ | ((with_reducible apply d_y); exact y_; rfl) | with_reducible refine ab rfl ?_ | (with_reducible first | apply ag | apply aa | apply ah | apply ac | apply ai | apply ap | apply au | apply ad | apply ak) | (refine ae rfl rr_ dd_ ?_))
        refine ao x_ rfl (.tmp _ _ rfl) (fun _ => ?_)
        exact Fin.flat rfl
    · rw [List.take_of_length_le (by omega), List.take_of_length_le (by omega)] at hs
      rw [decide_eq_true hs]
      repeat' (first | ((with_reducible apply o_y); exact y_; rfl) | with_reducible refine ab rfl ?_ | (with_reducible first | apply ag | apply aa | apply ah | apply ac | apply aH | apply au | apply ar | apply aq) | (refine aj rfl rr_ dd_ ?_))
      refine ao x_ rfl (.tmp _ _ rfl) (fun _ => ?_)
      exact Fin.flat rfl
  · rw [decide_eq_false (p := a = b) fun e => hl (by rw [e])]
    repeat' (first | ((with_reducible apply o_y); exact y_; rfl) | with_reducible refine ab rfl ?_ | (with_reducible first | apply ag | apply aa | apply ah | apply ac | apply au | apply ad) | (refine ae rfl rr_ dd_ ?_))
    refine ao x_ rfl (.tmp _ _ rfl) (fun _ => ?_)
    exact Fin.flat rfl
theorem eJ (l1 l2 : Nat) (a b : List ByteArray) (_hn : a.length ≤ 1048576) (hm : b.length ≤ 1048576) : Ct Tryz.prog G 188 [.sl l1 1 (cL a), .sl l2 1 (cL b)] (fun _ => .bool (decide (a = b))) := by
  refine aJ Tryz.func188 rfl Tryz.ntmps188 rfl rfl fun w0 _ hG => ?_
  have hla := bX a
  have hlb := bX b
  by_cases hl : a.length = b.length
  · repeat' (first | ((with_reducible apply o_y); exact y_; rfl) | with_reducible refine ab rfl ?_ | (with_reducible first | apply ag | apply aa | apply ah | apply ac | apply ai | apply ap) | (refine aj rfl rr_ dd_ ?_))
    apply aK (X := Nat) [0, 1, 12] (fun i => [(13, .int .i64 (i : Int))]) (fun _ => []) (fun i => i ≤ a.length ∧ a.take i = b.take i) (fun i => a.length - i) 0 ⟨Nat.zero_le _, by simp⟩
    exact kp_; (repeat (first | exact bj.envNil | refine bj.envCons we_ ?_))
    · exact .refl _
    rintro i ⟨hi, hs⟩
    try dsimp only
    by_cases hlt : i < a.length
    · have hr1 := dr hlt
      have hlt2 : i < b.length := by omega
      have hr2 := dr hlt2
      have hta := jo hlt hlt2 hs
      have hne : a[i] ≠ b[i] → decide (a = b) = false := fun h => decide_eq_false fun e => h (by subst e; rfl)
      generalize a[i] = x at hr1 hta hne
      generalize b[i] = y at hr2 hta hne
      by_cases hx : x = y
      · have hx' : ¬ x ≠ y := fun h => h hx
        repeat' (first | ((with_reducible apply o_y); exact y_; rfl) | with_reducible refine aF (by kernel_rfl) (by kernel_rfl) ?_ | with_reducible refine aN ?_ | with_reducible refine aE rfl ?_ | ((with_reducible apply d_y); exact y_; rfl) | with_reducible refine ab rfl ?_ | (with_reducible first | apply ag | apply aa | apply ah | apply ac | apply ai | apply ap | apply aB) | (refine ae rfl rr_ dd_ ?_) | (refine aj rfl rr_ dd_ ?_))
        exact aG (i + 1) ⟨by omega, hta hx⟩ (by omega) (.of _ nw_ od_ pk_)
      · have hx' : x ≠ y := hx
        rw [hne hx]
        repeat' (first | ((with_reducible apply o_y); exact y_; rfl) | with_reducible refine aF (by kernel_rfl) (by kernel_rfl) ?_ | with_reducible refine aN ?_ | with_reducible refine aE rfl ?_ | ((with_reducible apply d_y); exact y_; rfl) | with_reducible refine ab rfl ?_ | (with_reducible first | apply ag | apply aa | apply ah | apply ac | apply ai | apply ap | apply au | apply ad | apply ak) | (refine ae rfl rr_ dd_ ?_))
        refine ao x_ rfl (.tmp _ _ rfl) (fun _ => ?_)
        exact Fin.flat rfl
    · rw [List.take_of_length_le (by omega), List.take_of_length_le (by omega)] at hs
      rw [decide_eq_true hs]
      repeat' (first | ((with_reducible apply o_y); exact y_; rfl) | with_reducible refine ab rfl ?_ | (with_reducible first | apply ag | apply aa | apply ah | apply ac | apply aH | apply au | apply ar | apply aq) | (refine aj rfl rr_ dd_ ?_))
      refine ao x_ rfl (.tmp _ _ rfl) (fun _ => ?_)
      exact Fin.flat rfl
  · rw [decide_eq_false (p := a = b) fun e => hl (by rw [e])]
    repeat' (first | ((with_reducible apply o_y); exact y_; rfl) | with_reducible refine ab rfl ?_ | (with_reducible first | apply ag | apply aa | apply ah | apply ac | apply au | apply ad) | (refine ae rfl rr_ dd_ ?_))
    refine ao x_ rfl (.tmp _ _ rfl) (fun _ => ?_)
    exact Fin.flat rfl
end
set_option maxRecDepth 20000
def vq (l : List ByteArray) (s : ByteArray) : Int := if iP l s then (l.findIdx (fun y => decide (y = s)) : Nat) else -1
theorem xu {l : List ByteArray} {s : ByteArray} {i : Nat} (h : i < l.length) (e : l[i] = s) (hb : ∀ y ∈ l.take i, y ≠ s) : vq l s = i := by
  unfold vq
  rw [if_pos (oP h e), (List.findIdx_eq (p := fun y => decide (y = s)) h).2 ⟨by simp [e], fun j hj => ?_⟩]
  refine decide_eq_false (hb _ ?_)
  exact List.mem_take_iff_getElem.2 ⟨j, by omega, rfl⟩
theorem uk {l : List ByteArray} {s : ByteArray} (h : ∀ y ∈ l, y ≠ s) : vq l s = -1 := by
  unfold vq
  rw [lK h]; rfl
section
variable {G : World → Prop}
theorem fr (s : ByteArray) (hs : s.size ≤ 1048576) : Ct Tryz.prog G 189 [.str s] (fun _ => .bool (ce s.data.toList)) := fc fun w _ => (dC s w hs).mono fun _ _ h => ⟨h.1, qI h.2⟩
theorem qi (s : ByteArray) (hs : s.size ≤ 1048576) : Ct Tryz.prog G 222 [.str s] (fun _ => .bool (bM s.data.toList)) := fc fun w _ => (dQ s w hs).mono fun _ _ h => ⟨h.1, qI h.2⟩
theorem te : Ct Tryz.prog G 223 [] (fun K => .sl K 1 (cL dP)) := by
  refine aJ Tryz.func223 rfl Tryz.ntmps223 rfl rfl fun w0 _ hG => ?_
  repeat' (first | ((with_reducible apply o_y); exact y_; rfl) | refine dk ?_ | with_reducible refine ab rfl ?_ | (with_reducible first | apply ag | apply aa | apply ah | apply ac | apply au))
  refine ao (r1 := .tmp 0) (t1 := .sl w0.heap.size 1 (cL dP)) (.inr rfl) rfl (.tmp _ _ rfl) (fun _ => ?_)
  exact ci (f := fun s : ByteArray => [TV.str s]) (f' := fun s : ByteArray => [TV.str s]) (fun x => .cons (.flat rfl) .nil) dP
theorem e8 (hst : aY G) (s : ByteArray) (hs : s.size ≤ 1048576) : Ct Tryz.prog G 181 [.str s] (fun _ => .bool (ce s.data.toList)) := by
  refine aJ Tryz.func181 rfl Tryz.ntmps181 rfl rfl fun w0 _ hG => ?_
  have hw : dP.length ≤ 1048576 := by decide
  have hp := qi (G := G) s hs
  rw [show ce s.data.toList = (bM s.data.toList && !iP dP s) from by rw [iV]; rfl]
  cases h : bM s.data.toList
  all_goals
    rw [h] at hp
    cases h2 : iP dP s
    all_goals
      have hh := qP (G := G) w0.heap.size dP s hw
      rw [h2] at hh
      repeat' (first | ((with_reducible apply o_y); exact y_; rfl) | refine aw hG hst (hp) ?_ | refine aw hG hst (te) ?_ | refine aw hG hst (hh) ?_ | with_reducible refine ab rfl ?_ | (with_reducible first | apply ag | apply aa | apply ah | apply ac | apply au) | refine aP rfl rfl rfl rr_ ?_ | refine aO rfl rfl rfl rr_ rfl rfl rfl ?_)
      refine ao x_ rfl (.tmp _ _ rfl) (fun _ => ?_)
      exact Fin.flat rfl
theorem kQ (lo : Nat) (l : List ByteArray) (s : ByteArray) (hn : l.length ≤ 1048576) : Ct Tryz.prog G 122 [.sl lo 1 (cL l), .str s] (fun _ => .int .i64 (vq l s)) := by
  refine aJ Tryz.func122 rfl Tryz.ntmps122 rfl rfl fun w0 _ hG => ?_
  have hlen := bX l
  repeat' (first | ((with_reducible apply o_y); exact y_; rfl) | with_reducible refine ab rfl ?_ | (with_reducible first | apply ag | apply aa | apply ah | apply ac | apply ai))
  apply aK (X := Nat) [0, 1, 7] (fun i => [(8, .int .i64 (i : Int))]) (fun _ => []) (fun i => i ≤ l.length ∧ ∀ y ∈ l.take i, y ≠ s) (fun i => l.length - i) 0 ⟨Nat.zero_le _, by simp⟩
  exact kp_; (repeat (first | exact bj.envNil | refine bj.envCons we_ ?_))
  · exact .refl _
  rintro i ⟨hi, hs⟩
  try dsimp only
  by_cases hlt : i < l.length
  · have hrow := dr hlt
    have hta := bu (p := fun y => y ≠ s) hlt hs
    have htr : l[i] = s → vq l s = i := fun e => xu hlt e hs
    generalize l[i] = x at hrow hta htr
    by_cases hx : x = s
    · rw [htr hx]
      have hx2 : s = x := hx.symm
      repeat' (first | ((with_reducible apply o_y); exact y_; rfl) | with_reducible refine ab rfl ?_ | (with_reducible first | apply ag | apply aa | apply ah | apply ac | apply ai | apply ap | apply au | apply ad | apply ak) | (refine ae rfl rr_ dd_ ?_))
      refine ao x_ rfl (.tmp _ _ rfl) (fun _ => ?_)
      exact Fin.flat rfl
    · have hx2 : ¬ s = x := fun e => hx e.symm
      repeat' (first | ((with_reducible apply o_y); exact y_; rfl) | with_reducible refine ab rfl ?_ | (with_reducible first | apply ag | apply aa | apply ah | apply ac | apply ai | apply ap | apply aB) | (refine ae rfl rr_ dd_ ?_) | (refine aj rfl rr_ dd_ ?_))
      exact aG (i + 1) ⟨by omega, hta hx⟩ (by omega) (.of _ nw_ od_ pk_)
  · rw [List.take_of_length_le (by omega)] at hs
    rw [uk hs]
    repeat' (first | ((with_reducible apply o_y); exact y_; rfl) | with_reducible refine ab rfl ?_ | (with_reducible first | apply ag | apply aa | apply ah | apply ac | apply aH | apply au | apply ar | apply aq) | (refine aj rfl rr_ dd_ ?_))
    refine ao x_ rfl (.tmp _ _ rfl) (fun _ => ?_)
    exact Fin.flat rfl
theorem i5 (hst : aY G) (lo : Nat) (l : List ByteArray) (s : ByteArray) (hn : l.length ≤ 1048576) : Ct Tryz.prog G 42 [.sl lo 1 (cL l), .str s] (fun _ => .bool (decide (vq l s ≥ 0))) := by
  refine aJ Tryz.func42 rfl Tryz.ntmps42 rfl rfl fun w0 _ hG => ?_
  repeat' (first | ((with_reducible apply o_y); exact y_; rfl) | refine aw hG hst (kQ lo l s hn) ?_ | with_reducible refine ab rfl ?_ | (with_reducible first | apply ag | apply aa | apply ah | apply ac | apply au))
  refine ao x_ rfl (.tmp _ _ rfl) (fun _ => ?_)
  exact Fin.flat rfl
theorem vg (l : List ByteArray) (s : ByteArray) : decide (vq l s ≥ 0) = iP l s := by
  unfold vq
  cases iP l s
  · rfl
  · rw [if_pos rfl]; exact decide_eq_true (Int.natCast_nonneg _)
end
set_option maxRecDepth 20000
def kb (s : ByteArray) : Bool := decide (∀ j, j < s.size → 32 ≤ bat s j ∧ bat s j ≤ 126) && decide ((s.size : Int) ≤ 40)
theorem lv {s : ByteArray} {i : Nat} (h : i < s.size) (hb : ¬ (32 ≤ bat s i ∧ bat s i ≤ 126)) : kb s = false := by
  unfold kb
  rw [decide_eq_false fun hk => hb (hk i h)]; rfl
theorem km {s : ByteArray} (h : ∀ j, j < s.size → 32 ≤ bat s j ∧ bat s j ≤ 126) : kb s = decide ((s.size : Int) ≤ 40) := by
  unfold kb
  rw [decide_eq_true h]; rfl
theorem bT {p : Nat → Prop} {i : Nat} (h : ∀ j, j < i → p j) (hi : p i) : ∀ j, j < i + 1 → p j := fun j hj => by
  rcases Nat.lt_or_ge j i with hk | hk
  · exact h j hk
  · obtain rfl : j = i := by omega
    exact hi
section
variable {G : World → Prop}
theorem qo (s : ByteArray) (hs : s.size ≤ 1048576) : Ct Tryz.prog G 227 [.str s] (fun _ => .bool (kb s)) := by
  refine aJ Tryz.func227 rfl Tryz.ntmps227 rfl rfl fun w0 _ hG => ?_
  repeat' (first | ((with_reducible apply o_y); exact y_; rfl) | with_reducible refine ab rfl ?_ | (with_reducible first | apply ag | apply aa | apply ah | apply ac | apply ai))
  apply aK (X := Nat) [0] (fun i => [(3, .int .i64 (i : Int))]) (fun _ => []) (fun i => i ≤ s.size ∧ ∀ j, j < i → 32 ≤ bat s j ∧ bat s j ≤ 126) (fun i => s.size - i) 0 ⟨Nat.zero_le _, by simp⟩
  exact kp_; (repeat (first | exact bj.envNil | refine bj.envCons we_ ?_))
  · exact .refl _
  rintro i ⟨hi, hk⟩
  try dsimp only
  by_cases hlt : i < s.size
  · have hb := q5 s i
    by_cases hx : 32 ≤ bat s i ∧ bat s i ≤ 126
    · repeat' (first | ((with_reducible apply o_y); exact y_; rfl) | with_reducible refine ab rfl ?_ | (with_reducible first | apply ag | apply aa | apply ah | apply ac | apply ai | apply ap | apply aB) | refine aP rfl rfl rfl rr_ ?_ | (refine bC rfl rfl rfl rr_ dd_ ?_) | (refine ae rfl rr_ dd_ ?_) | (refine aj rfl rr_ dd_ ?_))
      exact aG (i + 1) ⟨by omega, bT hk hx⟩ (by omega) (.of _ nw_ od_ pk_)
    · rw [lv hlt hx]
      repeat' (first | ((with_reducible apply o_y); exact y_; rfl) | with_reducible refine ab rfl ?_ | (with_reducible first | apply ag | apply aa | apply ah | apply ac | apply ai | apply ap | apply au | apply ad | apply ak) | refine aP rfl rfl rfl rr_ ?_ | refine aO rfl rfl rfl rr_ rfl rfl rfl ?_ | (refine bm rfl rfl rfl rr_ (fun hg => ?_) (fun hg => ?_)) | refine av rfl rr_ ?_ | (refine ae rfl rr_ dd_ ?_))
      all_goals first
        | (exfalso; omega)
        | (refine ao x_ rfl (.tmp _ _ rfl) (fun _ => ?_)
           exact Fin.flat rfl)
  · rw [km fun j hj => hk j (by omega)]
    repeat' (first | ((with_reducible apply o_y); exact y_; rfl) | with_reducible refine ab rfl ?_ | (with_reducible first | apply ag | apply aa | apply ah | apply ac | apply aH | apply au | apply ar | apply aq) | (refine aj rfl rr_ dd_ ?_))
    refine ao x_ rfl (.tmp _ _ rfl) (fun _ => ?_)
    exact Fin.flat rfl
theorem nR (hst : aY G) (s : ByteArray) (hs : s.size ≤ 1048576) : Ct Tryz.prog G 195 [.str s] (fun _ => .bool (kb s)) := by
  refine aJ Tryz.func195 rfl Tryz.ntmps195 rfl rfl fun w0 _ hG => ?_
  repeat' (first | ((with_reducible apply o_y); exact y_; rfl) | with_reducible refine ab rfl ?_ | (with_reducible first | apply ag | apply aa | apply ah | apply ac | apply ai))
  apply aK (X := Nat) [0] (fun i => [(3, .int .i64 (i : Int))]) (fun _ => []) (fun i => i ≤ s.size ∧ ∀ j, j < i → 32 ≤ bat s j ∧ bat s j ≤ 126) (fun i => s.size - i) 0 ⟨Nat.zero_le _, by simp⟩
  exact kp_; (repeat (first | exact bj.envNil | refine bj.envCons we_ ?_))
  · exact .refl _
  rintro i ⟨hi, hk⟩
  try dsimp only
  by_cases hlt : i < s.size
  · have hb := q5 s i
    by_cases hx : 32 ≤ bat s i ∧ bat s i ≤ 126
    · have hw : Ct Tryz.prog G 57 [.int .i64 (bat s i), .int .i64 32, .int .i64 126] (fun _ => .bool true) := by rw [← show inR (bat s i) 32 126 = true from by unfold inR; simp; omega]; exact a7 _ _ _
      repeat' (first | ((with_reducible apply o_y); exact y_; rfl) | refine aw hG hst (hw) ?_ | with_reducible refine ab rfl ?_ | (with_reducible first | apply ag | apply aa | apply ah | apply ac | apply ai | apply ap | apply aB) | refine az rfl rr_ ?_ | (refine ae rfl rr_ dd_ ?_))
      exact aG (i + 1) ⟨by omega, bT hk hx⟩ (by omega) (.of _ nw_ od_ pk_)
    · have hw : Ct Tryz.prog G 57 [.int .i64 (bat s i), .int .i64 32, .int .i64 126] (fun _ => .bool false) := by rw [← show inR (bat s i) 32 126 = false from by unfold inR; simp; omega]; exact a7 _ _ _
      rw [lv hlt hx]
      repeat' (first | ((with_reducible apply o_y); exact y_; rfl) | refine aw hG hst (hw) ?_ | with_reducible refine ab rfl ?_ | (with_reducible first | apply ag | apply aa | apply ah | apply ac | apply ai | apply ap | apply au | apply ad | apply ak) | refine av rfl rr_ ?_ | (refine ae rfl rr_ dd_ ?_))
      refine ao x_ rfl (.tmp _ _ rfl) (fun _ => ?_)
      exact Fin.flat rfl
  · rw [km fun j hj => hk j (by omega)]
    repeat' (first | ((with_reducible apply o_y); exact y_; rfl) | with_reducible refine ab rfl ?_ | (with_reducible first | apply ag | apply aa | apply ah | apply ac | apply aH | apply au | apply ar | apply aq) | (refine aj rfl rr_ dd_ ?_))
    refine ao x_ rfl (.tmp _ _ rfl) (fun _ => ?_)
    exact Fin.flat rfl
end
def fieldAt (f : List ByteArray) (k : Nat) (s : ByteArray) : Bool := ce s.data.toList && !iP (f.take k) s
def mL (f : List ByteArray) : Prop := ∀ (k : Nat) (h : k < f.length), fieldAt f k f[k] = true
def cH (_l : List am) (i : Nat) (x : am) : Prop :=
  ce x.name.data.toList = true ∧ (0 ≤ x.parent ∧ x.parent < i) ∧ ¬ (5 ≤ x.parent ∧ x.parent ≤ 15) ∧ x.fields.length ≤ 8
instance (l : List am) (i : Nat) (x : am) : Decidable (cH l i x) := by unfold cH; infer_instance
def nL (l : List am) (i : Nat) (x : am) : Prop := ∀ y ∈ l.take i, y.name ≠ x.name
def dN (l : List am) (x : am) : List ByteArray := match l[x.parent.toNat]? with
  | some p => p.fields
  | none => []
def vG (l : List am) (x : am) : Prop := (dN l x).length ≤ x.fields.length ∧ x.fields.take (dN l x).length = dN l x
def dp (l : List am) (i : Nat) (x : am) : Prop :=
  if i < 16 then ∃ b, bH[i]? = some b ∧ x.name = b.name ∧ x.parent = b.parent ∧ x.fields = b.fields
  else cH l i x ∧ nL l i x ∧ vG l x ∧ mL x.fields
def lu (l : List am) : Prop := (16 ≤ l.length ∧ l.length ≤ 24) ∧ ∀ (i : Nat) (h : i < l.length), dp l i l[i]
open Classical in
noncomputable def bO (l : List am) : Bool := decide (lu l)
open Classical in
theorem ix {l : List am} (h : ¬ (16 ≤ l.length ∧ l.length ≤ 24)) : bO l = false := decide_eq_false fun k => h k.1
open Classical in
theorem hY {l : List am} {i : Nat} (h : i < l.length) (hb : ¬ dp l i l[i]) : bO l = false := decide_eq_false fun k => hb (k.2 i h)
open Classical in
theorem gC {l : List am} (hl : 16 ≤ l.length ∧ l.length ≤ 24) (h : ∀ j, j < l.length → ∀ h : j < l.length, dp l j l[j]) : bO l = true := decide_eq_true ⟨hl, fun i hi => h i hi hi⟩
theorem kf {l : List am} {i : Nat} {x b : am} (h : i < 16) (hb : bH[i]? = some b) : dp l i x ↔ x.name = b.name ∧ x.parent = b.parent ∧ x.fields = b.fields := by
  unfold dp
  rw [if_pos h]
  constructor
  · rintro ⟨c, hc, k⟩
    rw [hb] at hc; cases hc; exact k
  · exact fun k => ⟨b, hb, k⟩
theorem jB {l : List am} {i : Nat} {x : am} (h : ¬ i < 16) : dp l i x ↔ cH l i x ∧ nL l i x ∧ vG l x ∧ mL x.fields := by
  unfold dp
  rw [if_neg h]
theorem fV {l : List am} {x p : am} {k : Nat} (h : x.parent = k) (hp : l[k]? = some p) : dN l x = p.fields := by
  unfold dN
  rw [h, Int.toNat_natCast, hp]
theorem jt {f : List ByteArray} {k : Nat} (h : k < f.length) (hb : fieldAt f k f[k] = false) : ¬ mL f := fun a => by
  have := a k h
  rw [hb] at this; cases this
set_option maxRecDepth 20000
set_option maxRecDepth 4000 in
set_option maxHeartbeats 2000000 in
theorem nZ {G : World → Prop} (hst : aY G) (hca : ∀ s : ByteArray, s.size ≤ 1048576 → Ct Tryz.prog G 119 [.str s] (fun _ => .int .i64 (bS s.data.toList))) (op a b : Int) (t : ByteArray) (hs : t.size ≤ 1048576) (hop : inR op 1 26 = true) : Ct Tryz.prog G 138 [.agg [.int .i64 op, .int .i64 a, .int .i64 b, .str t]] (fun _ => .tup [.int .i64 (aD.eff ⟨op, a, b, t⟩).1, .int .i64 (aD.eff ⟨op, a, b, t⟩).2]) := by
  refine aJ Tryz.func138 rfl Tryz.ntmps138 rfl rfl fun w0 _ hG => ?_
  have h1 := nt t.data.toList
  have h2 := m9 t.data.toList
  simp only [inR, decide_eq_true_eq] at hop
  repeat' (first | ((with_reducible apply o_y); exact y_; rfl) | refine bf ?_ | refine aw hG hst (hca _ hs) ?_ | with_reducible refine ab rfl ?_ | (with_reducible first | apply ag | apply aa | apply ah | apply ac | apply ai | apply ap | apply au | apply ad | apply ak | apply aB) | (refine ae rfl rr_ dd_ ?_) | (refine bD rfl rr_ (fun hc => ?_) (fun hc => ?_)))
  all_goals
    clear hst
    have he : aD.eff ⟨op, a, b, t⟩ = aD.eff ⟨op, a, b, t⟩ := rfl
    conv at he => rhs; unfold aD.eff
    dsimp only at he
    rw [he]
    refine dq x_ rfl (.tmp _ _ rfl) (.tmp _ _ rfl) (fun _ => ?_) (fun _ => ?_)
    all_goals
      refine uX ?_
      first
        | (subst hc; simp; done)
        | (have h3 : op = 20 ∨ op = 23 := by omega
           rcases h3 with rfl | rfl <;> simp; done)
        | (have h3 : ¬ (op = 20 ∨ op = 23) := by omega
           simp [*]; done)
        | (simp [*]; done)
def plR (l : List (Int × Int)) : List (List TV) := l.map fun x => [.int .i64 x.1, .int .i64 x.2]
theorem xP {B L : Nat} {objs : bp} {l : List (Int × Int)} (h : l = []) : Fin B objs L .nils (.sl L 2 (plR l)) := by subst h; exact .nils _
theorem uC {B L : Nat} {objs : bp} {l : List (Int × Int)} {rows : List (List TV)} (h : rows = plR l) : Fin B objs L (.sl B 2 rows) (.sl L 2 (plR l)) := by
  subst h
  refine Fin.slFlat (Nat.le_refl _) fun t ht => ?_
  obtain ⟨r, hr, htr⟩ := List.mem_flatten.1 ht
  obtain ⟨x, _, rfl⟩ := List.mem_map.1 hr
  simp at htr
  rcases htr with rfl | rfl <;> rfl
set_option maxRecDepth 4000 in
set_option maxHeartbeats 2000000 in
theorem wW {G : World → Prop} (hst : aY G) (hca : ∀ s : ByteArray, s.size ≤ 1048576 → Ct Tryz.prog G 119 [.str s] (fun _ => .int .i64 (bS s.data.toList))) (op a b : Int) (t : ByteArray) (p : Nat) (d : Int) (hs : t.size ≤ 1048576) (hop : inR op 1 26 = true) (hp : p ≤ 1048576) (hd : 0 ≤ d ∧ d ≤ 250) :
    Ct Tryz.prog G 139 [.agg [.int .i64 op, .int .i64 a, .int .i64 b, .str t], .int .i64 (p : Int), .int .i64 d] (fun L => .sl L 2 (plR (aD.nexts ⟨op, a, b, t⟩ p d))) := by
  refine aJ Tryz.func139 rfl Tryz.ntmps139 rfl rfl fun w0 _ hG => ?_
  have hef := nZ hst hca op a b t hs hop
  have her := fS ⟨op, a, b, t⟩
  have hnx : aD.nexts ⟨op, a, b, t⟩ p d = aD.nexts ⟨op, a, b, t⟩ p d := rfl
  conv at hnx => rhs; unfold aD.nexts
  dsimp only at hnx
  rw [hnx]
  generalize (aD.eff ⟨op, a, b, t⟩).1 = e1 at *
  generalize (aD.eff ⟨op, a, b, t⟩).2 = e2 at *
  simp only [inR, decide_eq_true_eq] at hop
  repeat' (first | ((with_reducible apply o_y); exact y_; rfl) | refine bf ?_ | refine dk ?_ | refine je ?_ | refine aw hG hst (hef) ?_ | with_reducible refine ab rfl ?_ | (with_reducible first | apply ag | apply aa | apply ah | apply ac | apply ai | apply ap | apply au | apply ad | apply ak | apply aB) | (refine ae rfl rr_ dd_ ?_) | (refine bD rfl rr_ (fun hc => ?_) (fun hc => ?_)))
  all_goals
    clear hst hca hef her hnx
    refine ao x_ rfl (.tmp _ _ rfl) (fun _ => ?_)
    first
      | (refine xP ?_; simp [*]; done)
      | (refine uC ?_; simp [plR, *]; done)
      | (refine uC ?_; have h3 : ¬ (op = 21 ∨ op = 22) := by omega
         simp [plR, *]; done)
      | (refine uC ?_; have h3 : ¬ (op = 21 ∨ op = 22) := by omega
         have h4 : ¬ (op = 24 ∨ op = 25) := by omega
         simp [plR, *]; done)
def cr (op : Int) : List Nat := if op = 20 then [1] else if op = 21 ∨ op = 22 then [1, 2] else if op = 24 ∨ op = 25 ∨ op = 26 then [2] else []
def rl (op : Int) (s b : Nat) : List (List TV) := (cr op).map fun o => [.mp s b o]
theorem xg (op a b : Int) (t : ByteArray) : aD.labs ⟨op, a, b, t⟩ = (cr op).map fun o => if o = 1 then a else b := by
  unfold aD.labs cr
  dsimp only
  repeat' split
  all_goals simp
set_option maxRecDepth 4000 in
set_option maxHeartbeats 2000000 in
theorem kz {G : World → Prop} (s9 b9 : Nat) (op a b : Int) (t : ByteArray) : CtM Tryz.prog G 136 [.mp s9 b9 0] [(s9, b9, .box [.int .i64 op, .int .i64 a, .int .i64 b, .str t])] (fun _ : Nat × Nat => True)
    (fun y => [(y.1, y.2, .row 1 (rl op s9 b9)), (s9, b9, .box [.int .i64 op, .int .i64 a, .int .i64 b, .str t])]) (fun y => .ms y.1 y.2 0 (rl op s9 b9).length) := by
  have hcase : (op = 20 ∧ rl op s9 b9 = [[.mp s9 b9 1]]) ∨ ((op = 21 ∨ op = 22) ∧ rl op s9 b9 = [[.mp s9 b9 1], [.mp s9 b9 2]]) ∨ ((op = 24 ∨ op = 25 ∨ op = 26) ∧ rl op s9 b9 = [[.mp s9 b9 2]]) ∨ (¬ op = 20 ∧ ¬ op = 21 ∧ ¬ op = 22 ∧ ¬ op = 24 ∧ ¬ op = 25 ∧ ¬ op = 26 ∧ rl op s9 b9 = []) := by
    unfold rl cr
    by_cases h20 : op = 20
    · exact .inl ⟨h20, by simp [h20]⟩
    by_cases h21 : op = 21 ∨ op = 22
    · exact .inr (.inl ⟨h21, by simp [h20, h21]⟩)
    by_cases h24 : op = 24 ∨ op = 25 ∨ op = 26
    · exact .inr (.inr (.inl ⟨h24, by simp [h20, h21, h24]⟩))
    · exact .inr (.inr (.inr ⟨h20, by omega, by omega, by omega, by omega, by omega, by simp [h20, h21, h24]⟩))
  rcases hcase with ⟨h1, hr⟩ | ⟨h1, hr⟩ | ⟨h1, hr⟩ | ⟨h1, h2, h3, h4, h5, h6, hr⟩
  all_goals
    rw [hr]
    refine bB Tryz.func136 rfl Tryz.ntmps136 rfl rfl rfl fun w0 R gs objsR hG hR => ?_
    obtain rfl := hR.inv1
    repeat' (first | ((with_reducible apply o_y); exact y_; rfl) | (refine la ?_; intro ss bb) | (with_reducible apply mc (id := 6) 6; kernel_rfl; kernel_rfl; kernel_rfl; (repeat (first | exact Cut.zero _ | apply Cut.succ))) | with_reducible refine pL ?_ | with_reducible refine aE rfl ?_ | ((with_reducible apply d_y); exact y_; rfl) | with_reducible refine ab rfl ?_ | (with_reducible first | apply ag | apply aa | apply ah | apply ac | apply ai | apply ap | apply au | apply ad | apply ak | apply aB) | (refine ae rfl rr_ dd_ ?_) | (refine aj rfl rr_ dd_ ?_) | (refine bD rfl rr_ (fun hc => ?_) (fun hc => ?_)))
  all_goals first
    | (refine a8 x_ rfl (ss, bb) trivial rfl (.cons _ _ _ _ (.cons _ _ _ _ (.nil R))) pk_ (.tmp _ _ rfl) rfl; done)
    | (refine dG 2 1 (by omega) rfl fun ss => a8 x_ rfl (ss, 0) trivial rfl (.cons _ _ _ _ (.cons _ _ _ _ (.nil R))) pk_ (.tmp _ _ rfl) rfl; done)

theorem Tryz.intSz : (Tryz.prog.info? 3).map (·.size) = some 1 := by kernel_rfl
def m7 (n k : Nat) : List Value := List.replicate k (.int .i64 (-1)) ++ List.replicate (n - k) (.int .i64 0)
theorem ql {n k : Nat} (h : k ≤ n) : (m7 n k).length = n := by simp [m7]; omega
theorem pM {n k m : Nat} (_h : k + m ≤ n) : (m7 n k).take k ++ (List.replicate m (.int .i64 (-1)) ++ (m7 n k).drop (k + m)) = m7 n (k + m) := by
  have h1 : (m7 n k).take k = List.replicate k (.int .i64 (-1)) := by
    unfold m7; rw [List.take_append_of_le_length (by simp)]; simp
  have h2 : (m7 n k).drop (k + m) = List.replicate (n - (k + m)) (.int .i64 0) := by
    unfold m7; rw [List.drop_append]; simp; omega
  rw [h1, h2, ← List.append_assoc, List.replicate_append_replicate]; rfl
theorem vY {n k j : Nat} (h : j < k) (_hk : k ≤ n) : (m7 n k)[j]? = some (.int .i64 (-1)) := by
  unfold m7
  rw [List.getElem?_append_left (by simpa using h)]
  simp [h]

set_option maxRecDepth 100000 in
set_option maxHeartbeats 1000000 in
theorem sp (B q c n : Nat) (w : World) (hc : w.cell? ⟨B, q, none⟩ = some (.int .i64 (-1))) (hn0 : 1 ≤ n) (hn : n ≤ 1048576) :
    Calls Tryz.prog 137 #[.slice (some ⟨B, q, none⟩) 1 c, .int .i64 n] w fun e w' => e = .returned (.slice (some ⟨w.heap.size, 0, none⟩) n n) ∧ Below w.heap.size w w' ∧ Blk w' w.heap.size 3 (List.replicate n (Value.int .i64 (-1))).toArray := by
  have hmk := fun w => lR (P := Tryz.prog) 55 3 (.int .i64 0) 1 8 Tryz.underlying55 Tryz.infoInt .i64 .i64 n (by omega) (by omega) w
  have hd1 : ((1 * n / 18446744073709551616 : Nat) : Int) = 0 := by omega
  have hd2 : ((1 * n % 18446744073709551616 : Nat) : Int) = (n : Int) := by omega
  have Hd1 := Lib.hid hd1
  have Hd2 := Lib.hid hd2
  have i1 : ¬ (n : Int) < 0 := by omega
  have i2 : ¬ (9223372036854775807 : Int) < (n : Int) := by omega
  clear hd1 hd2
  go_enter Tryz.func137, Tryz.ntmps137
  clear hmk
  go_wp2_with fail
  refine (Tryz.bits_Mul 1 n (by omega) (by omega) _).mono ?_
  rintro e w' ⟨he, hw⟩
  rw [Hd1.out, Hd2.out] at he
  subst he
  subst hw
  have hmk := fun w => lR (P := Tryz.prog) 55 3 (.int .i64 0) 1 8 Tryz.underlying55 Tryz.infoInt .i64 .i64 n (by omega) (by omega) w
  have hcell : (w'.alloc (.cells (madeCells #[Value.int .i64 0] n) 3)).cell? ⟨B, q, none⟩ = some (.int .i64 (-1)) := (Below.cell (B := w'.heap.size) ((Below.refl _ _).alloc (Nat.le_refl _) _) (p := ⟨B, q, none⟩) (World.block_lt_of_cell? w' _ hc)).trans hc
  have hmin : 1 = Nat.min 1 n := (Nat.min_eq_left hn0).symm
  have Hmin := Lib.hid hmin
  have Hs1 := Lib.hid (show ∀ (j : Nat) v, [Value.int .i64 (-1)][j]? = some v → (w'.alloc (.cells (madeCells #[Value.int .i64 0] n) 3)).cell? ((⟨B, q, none⟩ : Addr).add j) = some v from fun j v hj => by
    have hj0 : j = 0 := by have := (List.getElem?_eq_some_iff.1 hj).1; simpa using this
    subst hj0
    simp at hj
    subst hj
    exact hcell)
  clear hmin
  go_wp2_with ((refine wpList_copy_own rfl (.tmp 31) (.tmp 32) 55 55 rfl 3 Tryz.underlying55 Tryz.intSz w'.heap.size 0 n n ⟨B, q, none⟩ 1 c rfl rfl (madeCells #[Value.int .i64 0] n) 3 (heap_alloc_new w' _) [.int .i64 (-1)] Hmin.out Hs1.out (by simp [madeCells]; omega) (by simp [Value.oneCell']) ?_))
  clear hmk hcell hc
  go_loopg [8] (n - 1) (fun gk v wr => ∃ k : Nat, 1 ≤ k ∧ k ≤ n ∧ gk = n - k ∧ v = .int .i64 k ∧ Below w'.heap.size w' wr ∧ Blk wr w'.heap.size 3 (m7 n k).toArray)
  case atStart =>
    refine ⟨1, Nat.le_refl _, hn0, rfl, rfl, below_setRow ((Below.refl _ _).alloc (Nat.le_refl _) _) (Nat.le_refl _) _, ?_⟩
    have h := setRow_heap (w'.alloc (.cells (madeCells #[Value.int .i64 0] n) 3)) w'.heap.size (madeCells #[Value.int .i64 0] n) (m7 n 1).toArray 3 (0, 0) (heap_alloc_new w' _)
    have e : (m7 n 1) = Value.int .i64 (-1) :: (madeCells #[Value.int .i64 0] n).toList.tail := by
      rw [toList_madeCells_one, List.tail_replicate]; simp [m7]
    rw [e] at h ⊢
    exact h
  case round =>
    obtain ⟨k, hk1, hk, rfl, rfl, hb, hB⟩ := hrel
    by_cases hlt : k < n
    · have hne : ¬ n = k := by omega
      have i3 : (0 : Int) ≤ (k : Int) := by omega
      have i4 : (k : Int) ≤ (n : Int) := by omega
      have hmm : Nat.min k (n - k) ≤ n - k ∧ Nat.min k (n - k) ≤ k := ⟨Nat.min_le_right _ _, Nat.min_le_left _ _⟩
      generalize hmd : Nat.min k (n - k) = m at hmm
      have Hmd := Lib.hid hmd
      have hm1 : 1 ≤ m := by rw [← hmd]; exact Nat.le_min.2 ⟨hk1, by omega⟩
      clear hmd
      have Hs2 := Lib.hid (show ∀ (j : Nat) v, (List.replicate m (Value.int .i64 (-1)))[j]? = some v → wr.cell? ((⟨w'.heap.size, 0, none⟩ : Addr).add j) = some v from fun j v hj => by
        have hjm : j < m := by have := (List.getElem?_eq_some_iff.1 hj).1; simpa using this
        simp [hjm] at hj
        subst hj
        rw [Addr.add_lit, Nat.zero_add, hB.cell j]
        simpa using vY (n := n) (k := k) (j := j) (by omega) hk)
      have Hspl := Lib.hid (pM (n := n) (k := k) (m := m) (by omega))
      have HL := Lib.hid (ql hk)
      have HB := Lib.hid hB
      clear hB
      go_wp2
      have HB2 := Lib.hid (show wr.drew.heap[w'.heap.size]? = some (.cells (m7 n k).toArray 3 (0, 0)) from HB.out)
      go_region_held3 (fun W => Below w'.heap.size w' W) (first | exact hb.drew | exact h4) ((refine step_copy_splice rfl (.tmp 41) (.tmp 44) 55 55 rfl 3 Tryz.underlying55 Tryz.intSz _ _ (n - k) (n - k) k n rfl rfl w'.heap.size k (m7 n k) 3 HB2.out (List.replicate m (.int .i64 (-1))) (by rw [List.length_replicate, Hmd.out]) (fun _ => ⟨by simp, _, rfl, Hs2.out⟩) (by rw [List.length_replicate, HL.out]; omega) (fun v hv => by rw [List.eq_of_mem_replicate hv]; rfl) w'.heap.size w' (by exact hb.drew) (Nat.le_refl _) ?_; intro w3 h3 h4))
      all_goals
        have h5 : Blk w3 w'.heap.size 3 (m7 n (k + m)).toArray := by
          have := h3.out
          unfold splice at this
          rw [List.length_replicate, Hspl.out] at this
          exact this
        clear h3
        go_wp2
        go_roundg (n - (k + m))
        case measure => omega
        case rel => exact ⟨k + m, by omega, by omega, rfl, by simp; exact IntWalk.i64_in _ (by omega), h4, h5⟩
    · go_wp2
      go_ret
      obtain rfl : k = n := by omega
      refine ⟨rfl, hb, ?_⟩
      unfold m7 at hB
      simpa using hB
section
variable {w0 w w' : World} {objs : bp} {ss b : Nat} {ob : ca}
theorem nI (hw : cV w0 objs w) (hbel : Below w.heap.size w w') (hb : w.heap.size ≤ b) : gT w objs w' ((ss, b, ob) :: objs) := by
  have hk : ∀ k, k < w.heap.size → w'.heap[k]? = w.heap[k]? := fun k hk => hbel.block k hk
  have hpos : 0 < w.heap.size := Nat.lt_of_lt_of_le hw.pos hw.below.size
  refine ⟨fun k h _ => hk k h, fun k h ha => ⟨ha.1, ?_⟩, fun s k m rows h _ hm => ?_, hbel.size, fun hm => ?_⟩
  · obtain ⟨s, o, hm⟩ := ha.2
    rcases List.mem_cons.1 hm with he | hm
    · simp only [Prod.mk.injEq] at he; omega
    · exact ⟨s, o, hm⟩
  · rcases List.mem_cons.1 hm with he | hm
    · simp only [Prod.mk.injEq] at he; omega
    · exact ⟨⟨rows, hm⟩, eS (hk k h)⟩
  · rcases List.mem_cons.1 hm with he | hm
    · simp only [dg, Prod.mk.injEq] at he; omega
    · exact hm
theorem cV.newB (hw : cV w0 objs w) (hbel : Below w.heap.size w w') (hb : w.heap.size ≤ b) (hs : ∀ x ∈ objs, x.1 ≠ ss) (ho : oK w' w0.heap.size ((ss, b, ob) :: objs) b ob) : cV w0 ((ss, b, ob) :: objs) w' :=
  ⟨hw.below.trans (hbel.mono hw.below.size), hw.pos, fun s k o hm => by
    rcases List.mem_cons.1 hm with he | hm
    · simp only [Prod.mk.injEq] at he; obtain ⟨rfl, rfl, rfl⟩ := he; exact ho
    · exact (hw.obj s k o hm).step (nI hw hbel hb) (hbel.block k (cK hw hm)),
  List.pairwise_cons.2 ⟨fun y hy => ⟨fun e => hs y hy e.symm, .inl (by have := cK (s := y.1) (b := y.2.1) (ob := y.2.2) hw hy; simp only; omega)⟩, hw.sites⟩⟩
end
theorem sc {w : World} {B b n : Nat} {objs : bp} (hB : B ≤ b) (hn : n ≤ 1048576) (x : Int) (hb : Blk w b 3 (List.replicate n (Value.int .i64 x)).toArray) : oK w B objs b (.row 1 (bv (List.replicate n x))) := by
  refine ⟨⟨by omega, fun t ht => by have := hU _ t ht; cases t <;> first | rfl | cases this⟩, fun r hr => ?_, .inr ⟨hB, _, _, n, hb, by simp, by simp [bv], by simp [maxLen]; omega, fun j t hj => ?_⟩⟩
  · obtain ⟨y, _, rfl⟩ := List.mem_map.1 hr; rfl
  · rw [jn, List.getElem?_map, Option.map_eq_some_iff] at hj
    obtain ⟨y, hy, rfl⟩ := hj
    obtain rfl := List.eq_of_mem_replicate (List.mem_of_getElem? hy)
    have hlt : j < n := by simpa using (List.getElem?_eq_some_iff.1 hy).1
    exact ⟨_, by simp [hlt], .int _ _⟩
theorem oV {G : World → Prop} (lo n : Nat) (hn0 : 1 ≤ n) (hn : n ≤ 1048576) : CtM Tryz.prog G 137 [.sl lo 1 [[.int .i64 (-1)]], .int .i64 n] [] (fun _ : Nat × Nat => True) (fun y => [(y.1, y.2, .row 1 (bv (List.replicate n (-1))))]) (fun y => .ms y.1 y.2 0 n) := fun w0 w R gs vs hG hw hgs hsz hrep => by
  simp only [List.nil_append] at hw hgs hrep
  obtain ⟨v1, v2, rfl⟩ : ∃ v1 v2, vs = #[v1, v2] := by
    match vs, hsz with
    | ⟨[v1, v2]⟩, _ => exact ⟨v1, v2, rfl⟩
  have h1 := hrep 0 _ v1 rfl rfl
  have h2 := (hrep 1 _ v2 rfl rfl).int_inv
  subst h2
  obtain ⟨A, c, rfl, _, _, _, _, h3⟩ := jr h1
  obtain ⟨b, q, u, rfl, _, h5, h6⟩ := h3 0 (.int .i64 (-1)) rfl
  rw [h6.int_inv] at h5
  refine (sp b q c n w (by simpa using h5) hn0 hn).mono ?_
  rintro e w' ⟨rfl, hbel, hblk⟩
  obtain ⟨ss, hss⟩ := fp R
  have hwB : w0.heap.size ≤ w.heap.size := hw.below.size
  have hst := nI (ss := ss) (ob := .row 1 (bv (List.replicate n (-1)))) hw hbel (Nat.le_refl _)
  have hlt : w.heap.size < w'.heap.size := hblk.lt
  have hb0 : w.heap.size ≠ 0 := Nat.ne_of_gt (Nat.lt_of_lt_of_le hw.pos hwB)
  have hw' := hw.newB (ss := ss) hbel (Nat.le_refl _) hss (sc (w := w') hwB hn (-1) hblk)
  refine ⟨_, (ss, w.heap.size), rfl, trivial, hw', hgs.step hst, .ms _ _ _ _ _ (.mk ⟨hlt, hw'.noMark, _, _, rfl⟩ (fun m rows hm => .inr ⟨hb0, 0, n, 3, n * 1, rfl, Nat.le_refl _, ?_, ?_, fun _ => by simp⟩) (fun h0 => absurd h0 hb0))⟩
  · unfold World.shape?; rw [hblk]; simp
  · rcases List.mem_cons.1 hm with he | hm
    · simp only [Prod.mk.injEq, ca.row.injEq] at he; rw [he.2.2.1]; simp
    · exact absurd (cK hw hm) (Nat.lt_irrefl _)
end Go.Proofs.YthpdkhejeookhaaGreatDoor
