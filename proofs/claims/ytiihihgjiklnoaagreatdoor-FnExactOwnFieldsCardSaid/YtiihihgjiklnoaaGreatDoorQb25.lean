/- Part 25 of the proof: the texts IvO, IvK. -/
import Derived.Test.YtiihihgjiklnoaaGreatDoorQb10
import Derived.Test.YtiihihgjiklnoaaGreatDoorQb21
/- IsVerified: a code, on the side of the reference (l16Code). -/
namespace Go.Proofs.YtiihihgjiklnoaaGreatDoor
set_option maxRecDepth 20000
open Go Go.RowKit
def hH (o : List Int) (n k i : Nat) : List Int := ((fX o n (k : Int)).take i).reverse
theorem wK (o : List Int) (n k i : Nat) : (hH o n k i).length ≤ n := by
  have := j4 o n (k : Int)
  simp [hH]; omega
theorem tq {o : List Int} {n k i : Nat} {v : Int} (h : (fX o n (k : Int))[i]? = some v) : v :: hH o n k i = hH o n k (i + 1) := by
  unfold hH
  rw [List.take_add_one, h]; simp
theorem w7 {o : List Int} {n k i : Nat} (h : (fX o n (k : Int))[i]? = none) : hH o n k i = (fX o n (k : Int)).reverse := by
  unfold hH
  rw [List.take_of_length_le (List.getElem?_eq_none_iff.1 h)]
set_option maxRecDepth 8000 in
set_option maxHeartbeats 8000000 in
theorem wC (f lo lo2 : Nat) (cl : List aa) (cen : TV) (cs : List ay) (mn : Int) (hcl : cl.length ≤ 1048576) (hcs : cs.length ≤ 1048576 ∧ ∀ y ∈ cs, ay.small 1048576 y) (o : List Int) (hinv : cC cs.length o) (k : Nat) (own : ay) (hk : cs[k]? = some own)
    (hbf : ∀ x ∈ own.instrs, ix cs k x) :
    Ct Tryz.prog GL 128 [.cp f [.sl lo 3 (cl.map (aa.tw lo)), .sl lo 4 (cs.map (ay.tw lo)), cen, .int .i64 mn], .int .i64 (k : Int), .sl lo2 1 (aO o)] (fun _ => .bool (wD cs cl.length o k own)) := by
  refine ao Tryz.func128 rfl Tryz.ntmps128 rfl rfl fun w0 _ hG => ?_
  have hst := df
  have hkl : k < cs.length := (List.getElem?_eq_some_iff.1 hk).1
  have hsm := hcs.2 own (List.mem_of_getElem? hk)
  have hiq := fun L hL x hx hb hsl => tZ hst ac2 f lo w0.heap.size cl cen cs mn hcl hcs o hinv k own hk hsl L hL x hx hb
  have hpre := oV (cs := cs) (nc := cl.length) (o := o) (k := k) (own := own)
  have hcF := xF (cs := cs) (nc := cl.length) (o := o) (k := k) (x := own)
  have hcT := yW (cs := cs) (nc := cl.length) (o := o) (k := k) (x := own)
  unfold fF qD at hcF hcT
  have hrk : (cs.map (ay.tw lo))[k]? = some [.bool own.block, .int .i64 own.params, .int .i64 own.slots, .sl lo 4 (own.instrs.map (ag.tw lo))] := by rw [List.getElem?_map, hk]; rfl
  clear hk
  have hgen : ∀ x ∈ own.instrs, eF cs cl.length o k own x = true → True := fun _ _ _ => trivial
  clear hgen
  have hB : ∃ B : ag → Bool, B = eF cs cl.length o k own := ⟨_, rfl⟩
  obtain ⟨B, hB⟩ := hB
  rw [← hB] at hcF hcT hpre
  have hiq2 : ∀ (L : List Int), L = (fX o cs.length (k : Int)).reverse → ∀ x : ag, x.text.size ≤ 1048576 → ix cs k x → 0 ≤ own.slots ∧ own.slots ≤ 30 → Ct Tryz.prog GL 205 [.cp f [.sl lo 3 (cl.map (aa.tw lo)), .sl lo 4 (cs.map (ay.tw lo)), cen, .int .i64 mn], .int .i64 (k : Int), .agg [.int .i64 x.op, .int .i64 x.a, .int .i64 x.b, .str x.text], .sl w0.heap.size 1 (aO L)] (fun _ => .bool (B x)) := fun L hL x hx hb hsl => by rw [hB]; exact hiq L hL x hx hb hsl
  clear hiq
  have hcB : wD cs cl.length o k own = wD cs cl.length o k own := rfl
  generalize hC : wD cs cl.length o k own = C at hcF hcT ⊢
  clear hB hcB hC
  obtain ⟨bl, pr, sl, is⟩ := own
  dsimp only at hbf hsm hiq2 hpre hcF hcT hrk
  have hn : is.length ≤ 1048576 := hsm.1
  have ht : ∀ i ∈ is, i.text.size ≤ 1048576 := hsm.2
  have hil := ag.len lo is
  have c1 := a7 (G := GL) sl 0 30
  have c2 := a7 (G := GL) pr 0 sl
  by_cases h1 : inR sl 0 30 = true
  case neg =>
    rw [hcF fun h => h1 h.1.1]
    rw [Bool.eq_false_iff.2 h1] at c1
    repeat' (first | refine V_ ?_ | refine ac hG hst (c1) ?_ | refine c_ (fun hc => ?_) (fun hc => ?_) | refine g_ (fun hg => ?_) (fun hg => ?_))
    exact r1_
  by_cases h2 : inR pr 0 sl = true
  case neg =>
    rw [hcF fun h => h2 h.1.2.1]
    rw [h1] at c1
    rw [Bool.eq_false_iff.2 h2] at c2
    repeat' (first | refine V_ ?_ | refine ac hG hst (c1) ?_ | refine ac hG hst (c2) ?_ | refine c_ (fun hc => ?_) (fun hc => ?_) | refine g_ (fun hg => ?_) (fun hg => ?_))
    exact r1_
  rw [h1] at c1
  rw [h2] at c2
  by_cases h3 : is.length ≤ 900
  case neg =>
    rw [hcF fun h => h3 h.1.2.2]
    repeat' (first | refine V_ ?_ | refine ac hG hst (c1) ?_ | refine ac hG hst (c2) ?_ | refine c_ (fun hc => ?_) (fun hc => ?_) | refine g_ (fun hg => ?_) (fun hg => ?_))
    exact r1_
  have hsl := of_decide_eq_true h1
  repeat' (first | refine V_ ?_ | refine dA ?_ | refine ac hG hst (c1) ?_ | refine ac hG hst (c2) ?_ | refine c_ (fun hc => ?_) (fun hc => ?_) | refine g_ (fun hg => ?_) (fun hg => ?_))
  have hinv' : cC o.length o := by rw [hinv.1]; exact hinv
  have hol : o.length = cs.length := hinv.1
  have hcl2 := hcs.1
  apply aj (X := Nat) [0, 1, 2, 7] (fun i => [(8, .sl w0.heap.size 1 (aO (hH o cs.length k i))), (9, .int .i64 (upN o i (k : Int)))]) (fun _ => []) (fun i => i ≤ cs.length) (fun i => cs.length - i) 0 (Nat.zero_le _)
  exact kp_; exact nw_
  · exact .refl _
  intro i hi
  try dsimp only at hi ⊢
  have hup := r9 hinv' i (k : Int) (.inr ⟨by omega, by omega⟩)
  have hcu := lN hinv' cs.length (k : Int) i (.inr ⟨by omega, by omega, by omega⟩)
  have hLl := wK o cs.length k i
  have hLr := aq (hH o cs.length k i)
  by_cases hat : 0 ≤ upN o i (k : Int)
  · obtain ⟨j, hj⟩ : ∃ j : Nat, upN o i (k : Int) = j := ⟨(upN o i (k : Int)).toNat, by omega⟩
    have hs := iJ o i (k : Int)
    rw [if_neg (by omega), hj] at hs
    rw [if_pos hat, hj] at hcu
    rw [hj] at hup
    have hin : i < cs.length := Nat.lt_of_lt_of_le (List.getElem?_eq_some_iff.1 hcu).1 (j4 _ _ _)
    have hrow := eN (o := o) (j := j) (by omega)
    have hstep := tq hcu
    generalize hH o cs.length k i = L at hLl hLr hstep ⊢
    have hnew : [[TV.int .i64 (j : Int)]] ++ aO L = aO (hH o cs.length k (i + 1)) := by rw [← hstep]; rfl
    rw [hj]
    repeat' (first | refine W_ ?_ | (refine lz ?_; intro ss bb) | (refine rd ?_; intro bb) | refine c_ (fun hc => ?_) (fun hc => ?_) | refine g_ (fun hg => ?_) (fun hg => ?_))
    refine xX (t := 8) rfl ?_ (.head _) ?_
    · simp [hLr]; omega
    rw [hnew]
    exact ah (i + 1) (by omega) (by omega) (.of _ nw_ od_ pk_)
  · rw [if_neg hat] at hcu
    have hend := w7 hcu
    rw [hend] at hLl hLr ⊢
    clear hend hcu
    have hins := hiq2 _ rfl
    clear hiq2
    generalize (fX o cs.length (k : Int)).reverse = L at hLl hLr hins ⊢
    repeat' (first | refine W_ ?_ | refine c_ (fun hc => ?_) (fun hc => ?_) | refine g_ (fun hg => ?_) (fun hg => ?_))
    apply aj (X := Nat) [0, 1, 7, 8] (fun q => [(10, .int .i64 (q : Int))]) (fun _ => []) (fun q => q ≤ is.length ∧ ∀ j, j < q → ∀ h : j < is.length, B is[j] = true) (fun q => is.length - q) 0 ⟨Nat.zero_le _, by omega⟩
    exact kp_; exact nw_
    · exact .refl _
    rintro q ⟨hq, hqa⟩
    try dsimp only
    by_cases hlt : q < is.length
    · have hra := iC (lo := lo) hlt
      have hmem : is[q] ∈ is := List.getElem_mem hlt
      have hxq := ht _ hmem
      have hct := hins is[q] hxq (hbf _ hmem) hsl
      have hnx : B is[q] = true → ∀ j, j < q + 1 → ∀ h : j < is.length, B is[j] = true := fun h => bW hqa fun _ => h
      have hbad : B is[q] = false → C = false := fun h => hcF fun k => by
        have := k.2.1 _ hmem
        rw [h] at this; cases this
      generalize is[q] = x at hra hct hnx hbad
      cases hBx : B x
      · rw [hBx] at hct
        rw [hbad hBx]
        repeat' (first | refine W_ ?_ | refine ab hG hst (hct) ?_ | refine c_ (fun hc => ?_) (fun hc => ?_) | refine g_ (fun hg => ?_) (fun hg => ?_))
        exact r1_
      · rw [hBx] at hct
        repeat' (first | refine W_ ?_ | refine ab hG hst (hct) ?_ | refine c_ (fun hc => ?_) (fun hc => ?_) | refine g_ (fun hg => ?_) (fun hg => ?_))
        exact ah (q + 1) ⟨by omega, hnx hBx⟩ (by omega) (.of _ nw_ od_ pk_)
    · have hall : ∀ y ∈ is, B y = true := fun y hy => by
        obtain ⟨j, hj, rfl⟩ := List.getElem_of_mem hy
        exact hqa j (by omega) hj
      have hp := hpre hall
      have hdep := lg hst adA lo lo bl pr sl is hn ht hp
      have hnew := xJ (cM is)
      have hCe : C = (cM is).isSome := by
        rw [← oP is hp]
        cases hd : (bR is).isSome
        · exact hcF fun h => by rw [hd] at h; exact absurd h.2.2 (by simp)
        · exact hcT ⟨⟨h1, h2, h3⟩, hall, hd⟩
      rw [hCe]
      rw [kb lo] at hdep
      unfold dR dO at hdep hnew
      generalize (cM is).getD [] = ds at hdep hnew
      generalize (cM is).isSome = ok at hdep hnew ⊢
      repeat' (first | refine W_ ?_ | ((with_reducible apply ed); rfl; kernel_rfl; exact hG; exact hst; exact hdep; ((repeat (first | exact cf.nil | ((with_reducible apply cf.cons); rfl; (first | with_reducible exact ci.same _ | ((with_reducible apply ci.msAll); (repeat (first | with_reducible exact mh | with_reducible refine mt ?_)); (first | with_reducible assumption | exact aP _ | exact aq _ | exact aQ _ | exact List.length_map _ | assumption | rfl)) | ((with_reducible apply view_code); (repeat (first | with_reducible exact mh | with_reducible refine mt ?_)); (first | with_reducible assumption | exact aP _ | exact aq _ | exact aQ _ | exact List.length_map _ | assumption | rfl)) | ((with_reducible apply ci.cut); exact ci.cp0 _ _; rfl)))))); exact hnew; rintro ⟨ss, bb⟩ -; refine br ?_) | refine c_ (fun hc => ?_) (fun hc => ?_) | refine g_ (fun hg => ?_) (fun hg => ?_))
      exact r1_
set_option maxRecDepth 20000
section
variable {G : World → Prop}
set_option maxRecDepth 4000 in
set_option maxHeartbeats 4000000 in
theorem rH (hst : az G) (lo : Nat) (ccl cen : TV) (cs : List ay) (mn : Int) (hne : 1 ≤ cs.length) (hcs : cs.length ≤ 1048576 ∧ ∀ y ∈ cs, ay.small 1048576 y) :
    Ct Tryz.prog G 137 [.agg [ccl, .sl lo 4 (cs.map (ay.tw lo)), cen, .int .i64 mn]] (aaU cs) := by
  refine ao Tryz.func137 rfl Tryz.ntmps137 rfl rfl fun w0 _ hG => ?_
  have hl2 := ay.len lo cs
  have hcl := hcs.1
  have hrep := fun lo => r8 (G := G) lo cs.length hne hcl
  repeat' (first | refine H_ 2 ?_ | refine aE ?_ | refine dA ?_ | ((with_reducible apply aF); rfl; kernel_rfl; (repeat (first | exact aD.nil | ((with_reducible apply aD.cons); rfl))); exact hG; exact hrep _; exact .nil _; intro y _; obtain ⟨ss, bb⟩ := y; refine br ?_) | refine c_ (fun hc => ?_) (fun hc => ?_) | refine g_ (fun hg => ?_) (fun hg => ?_))
  refine ⟨?_⟩
  generalize ss = sd; generalize bb = bd
  have hst0 : fj cs 0 (List.replicate cs.length (-1)) = ew cs := rfl
  have hin0 := gu cs.length
  unfold aaU
  generalize ew cs = R at hst0
  generalize List.replicate cs.length (-1 : Int) = o0 at hst0 hin0
  repeat' (first | refine W_ ?_ | refine c_ (fun hc => ?_) (fun hc => ?_) | refine g_ (fun hg => ?_) (fun hg => ?_))
  apply aj (X := Nat × List Int) [1, 4, 17, 18] (fun x => [(19, .int .i64 (x.1 : Int))]) (fun x => [(sd, bd, .row 1 (aO x.2))]) (fun x => x.1 ≤ cs.length ∧ cC cs.length x.2 ∧ fj cs x.1 x.2 = R) (fun x => cs.length - x.1) (0, o0) ⟨Nat.zero_le _, hin0, hst0⟩
  exact kp_; exact nw_
  · exact .refl _
  clear hin0 hst0
  rintro ⟨i, o⟩ ⟨hi, hin, hR⟩
  dsimp only at hi hin hR ⊢
  have hol : (aO o).length = cs.length := by rw [aq]; exact hin.1
  by_cases hlt : i < cs.length
  · have hra := bL (lo := lo) hlt
    have hsm := hcs.2 _ (List.getElem_mem hlt)
    rw [kO hlt] at hR
    generalize cs[i] = c at hra hsm hR
    obtain ⟨cb, cp, csl, is⟩ := c
    dsimp only at hra hR
    have hil := ag.len lo is
    have hisl : is.length ≤ 1048576 := hsm.1
    repeat' (first | refine W_ ?_ | (refine ai ?_; intro ss bb) | refine ad ?_ | refine c_ (fun hc => ?_) (fun hc => ?_) | refine g_ (fun hg => ?_) (fun hg => ?_))
    apply aj (X := Nat × List Int) [1, 4, 5, 17, 18, 19, 25, 26] (fun x => [(27, .int .i64 (x.1 : Int))]) (fun x => [(sd, bd, .row 1 (aO x.2))]) (fun x => x.1 ≤ is.length ∧ cC cs.length x.2 ∧ fq cs i (is.drop x.1) x.2 = R) (fun x => is.length - x.1) (0, o) ⟨Nat.zero_le _, hin, hR⟩
    exact kp_; exact nw_
    · exact pk_
    clear hin hR hol
    rintro ⟨k, o⟩ ⟨hk, hin, hR⟩
    dsimp only at hk hin hR ⊢
    have hol : (aO o).length = cs.length := by rw [aq]; exact hin.1
    by_cases hlk : k < is.length
    · have hrk := iC (lo := lo) hlk
      rw [kY hlk] at hR
      generalize is[k] = x at hrk hR
      obtain ⟨op, a, b, t⟩ := x
      unfold ze at hR
      dsimp only at hrk hR
      by_cases h15 : op = 15
      · rw [if_pos h15] at hR
        have h15' : ¬ op ≠ 15 := fun h => h h15
        by_cases hin2 : 0 ≤ a ∧ a ≤ (i : Int) - 1
        · have cin := aK (G := G) a 0 ((i - 1 : Nat) : Int)
          rw [t8 (by omega)] at cin
          obtain ⟨q, rfl⟩ : ∃ q : Nat, a = q := ⟨a.toNat, by omega⟩
          have hql : q < o.length := by rw [hin.1]; omega
          have hrq := eN hql
          have hqc : q < cs.length := by omega
          have hrc := bL (lo := lo) hqc
          have hblk := fun o' k' hp hinv => mb (cs := cs) (i := i) (k := k') (is := is) (o := o') (a := q) hlt hinv hqc hp
          generalize cs[q] = y at hrc hblk
          obtain ⟨yb, yp, ysl, yi⟩ := y
          dsimp only at hrc hblk
          by_cases hg : 0 ≤ gd o (q : Int)
          · rw [if_neg fun h => h.2 hg] at hR
            cases yb
            all_goals
              repeat' (first | refine W_ ?_ | (refine ai ?_; intro ss bb) | refine ad ?_ | refine ab hG hst (cin) ?_ | refine c_ (fun hc => ?_) (fun hc => ?_) | refine g_ (fun hg => ?_) (fun hg => ?_))
              refine d9 x_ rfl (.tmp _ _ rfl) (.tmp _ _ rfl) (fun _ => ?_) (fun _ => ?_)
              · exact gC hR.symm
              · exact ex hR.symm
          · rw [if_pos ⟨hin2, hg⟩, Int.toNat_natCast] at hR
            dsimp only at hR
            have hset := pR o q (i : Int)
            have hin3 := (lT (n := cs.length) (i := i) (x := ⟨15, q, b, t⟩) (o := o) (o' := o.set q (i : Int)) hlt (by unfold ze; rw [if_pos rfl, if_pos ⟨hin2, hg⟩, Int.toNat_natCast]) hin).1
            cases yb
            case false =>
              have hno := hblk (o.set q (i : Int)) (k + 1) rfl hin3 (by rw [j5 hql]; omega)
              rw [hR] at hno
              repeat' (first | refine W_ ?_ | (refine ai ?_; intro ss bb) | refine ad ?_ | refine ab hG hst (cin) ?_ | refine c_ (fun hc => ?_) (fun hc => ?_) | refine g_ (fun hg => ?_) (fun hg => ?_))
              refine d9 x_ rfl (.tmp _ _ rfl) (.tmp _ _ rfl) (fun _ => ?_) (fun _ => ?_)
              · exact gC hno
              · exact ex hno
            repeat' (first | refine W_ ?_ | (refine ai ?_; intro ss bb) | refine ad ?_ | refine ab hG hst (cin) ?_ | refine a6 ?_ | refine c_ (fun hc => ?_) (fun hc => ?_) | refine g_ (fun hg => ?_) (fun hg => ?_))
            rw [hset]
            refine ah (k + 1, o.set q (i : Int)) ⟨by dsimp only; omega, hin3, hR⟩ (by dsimp only; omega) (.of _ nw_ od_ pk_)
        · have cin := aK (G := G) a 0 ((i : Int) - 1)
          have cin' := aK (G := G) a 0 ((i - 1 : Nat) : Int)
          rw [zO hin2] at cin
          rw [if_neg fun h => hin2 h.1] at hR
          repeat' (first | refine W_ ?_ | (refine ai ?_; intro ss bb) | refine ad ?_ | refine ab hG hst (cin) ?_ | refine c_ (fun hc => ?_) (fun hc => ?_) | refine g_ (fun hg => ?_) (fun hg => ?_))
          refine d9 x_ rfl (.tmp _ _ rfl) (.tmp _ _ rfl) (fun _ => ?_) (fun _ => ?_)
          · exact gC hR.symm
          · exact ex hR.symm
      · rw [if_neg h15] at hR
        dsimp only at hR
        repeat' (first | refine W_ ?_ | (refine ai ?_; intro ss bb) | refine ad ?_ | refine c_ (fun hc => ?_) (fun hc => ?_) | refine g_ (fun hg => ?_) (fun hg => ?_))
        refine ah (k + 1, o) ⟨by dsimp only; omega, hin, hR⟩ (by dsimp only; omega) (.of _ nw_ od_ pk_)
    · rw [mR hlk] at hR
      repeat' (first | refine W_ ?_ | refine c_ (fun hc => ?_) (fun hc => ?_) | refine g_ (fun hg => ?_) (fun hg => ?_))
      refine ah (i + 1, o) ⟨by dsimp only; omega, hin, hR⟩ (by dsimp only; omega) (.of _ nw_ od_ pk_)
  · rw [mY hlt] at hR
    repeat' (first | refine W_ ?_ | refine c_ (fun hc => ?_) (fun hc => ?_) | refine g_ (fun hg => ?_) (fun hg => ?_))
    apply aj (X := Nat) [1, 4, 66, 67] (fun j => [(68, .int .i64 (j : Int))]) (fun _ => [(sd, bd, .row 1 (aO o))]) (fun j => j ≤ cs.length ∧ ∀ q, q < j → ∀ h : q < cs.length, cs[q].block = decide (0 ≤ gd o (q : Int))) (fun j => cs.length - j) 0 ⟨Nat.zero_le _, by omega⟩
    exact kp_; exact nw_
    · exact .refl _
    rintro j ⟨hj, hja⟩
    try dsimp only
    by_cases hlj : j < cs.length
    · have hra := bL (lo := lo) hlj
      have hrj := eN (o := o) (j := j) (by rw [hin.1]; exact hlj)
      have hbad := n8 (o := o) hlj
      have hnx : cs[j].block = decide (0 ≤ gd o (j : Int)) → ∀ q, q < j + 1 → ∀ h : q < cs.length, cs[q].block = decide (0 ≤ gd o (q : Int)) := fun ho => bW hja fun _ => ho
      generalize cs[j] = c at hra hbad hnx
      obtain ⟨cb, cp, csl, is⟩ := c
      dsimp only at hra hbad hnx
      generalize gd o (j : Int) = v at hrj hbad hnx
      by_cases hb : cb = decide (0 ≤ v)
      · repeat' (first | refine V_ ?_ | (refine ai ?_; intro ss bb) | refine ad ?_ | refine c_ (fun hc => ?_) (fun hc => ?_) | refine g_ (fun hg => ?_) (fun hg => ?_))
        all_goals first
          | exact ah (j + 1) ⟨by omega, hnx hb⟩ (by omega) (.of _ nw_ od_ pk_)
          | (exfalso; simp_all; done)
      · rw [hbad hb] at hR
        repeat' (first | refine V_ ?_ | (refine ai ?_; intro ss bb) | refine ad ?_ | refine c_ (fun hc => ?_) (fun hc => ?_) | refine g_ (fun hg => ?_) (fun hg => ?_))
        all_goals first
          | (exfalso; simp_all; done)
          | (refine d9 x_ rfl (.tmp _ _ rfl) (.tmp _ _ rfl) (fun _ => ?_) (fun _ => ?_)
             · exact gC hR.symm
             · exact ex hR.symm)
    · rw [mE fun q hq => hja q (by omega)] at hR
      repeat' (first | refine W_ ?_ | refine c_ (fun hc => ?_) (fun hc => ?_) | refine g_ (fun hg => ?_) (fun hg => ?_))
      refine d9 x_ rfl (.tmp _ _ rfl) (.tmp _ _ rfl) (fun _ => ?_) (fun _ => ?_)
      · exact vb hR.symm hin.1 List.mem_cons_self
      · exact oo hR.symm
end
end Go.Proofs.YtiihihgjiklnoaaGreatDoor
