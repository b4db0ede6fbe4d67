/- Part 11 of the proof: the texts IvM, IvO, IvG, IvI, IvJ, IvU, ImB, ImF, EngAK. -/
import Derived.Test.YthpdkhejeookhaaGreatDoorPart6
import Derived.Test.YthpdkhejeookhaaGreatDoorPart9
import Derived.Test.YthpdkhejeookhaaGreatDoorPart5
import Derived.Test.YthpdkhejeookhaaGreatDoorPart8
import Derived.Test.YthpdkhejeookhaaGreatDoorPart10
/- IsVerified: an instruction, on the side of the reference (l16Instr). -/
namespace Go.Proofs.YthpdkhejeookhaaGreatDoor
set_option maxRecDepth 20000
open Go Go.RowKit
section
variable {G : World → Prop}
set_option maxRecDepth 8000 in
set_option maxHeartbeats 8000000 in
theorem qp (hst : aY G) (hse : ∀ s : ByteArray, s.size ≤ 1048576 → Ct Tryz.prog G 182 [.str s] (fun _ => .bool (cm s.data.toList)))
    (f lo lo2 : Nat) (cl : List am) (cen : TV) (cs : List aT) (mn : Int) (hcl : cl.length ≤ 1048576) (hcs : cs.length ≤ 1048576 ∧ ∀ y ∈ cs, aT.small 1048576 y) (o : List Int) (hinv : cB cs.length o) (k : Nat) (own : aT) (hk : cs[k]? = some own) (hsl : 0 ≤ own.slots ∧ own.slots ≤ 30)
    (L : List Int) (hL : L = (eM o cs.length k).reverse) (x : aD) (hx : x.text.size ≤ 1048576) (hbf : fX cs k x) :
    Ct Tryz.prog G 184 [.cp f [.sl lo 3 (cl.map (am.tw lo)), .sl lo 4 (cs.map (aT.tw lo)), cen, .int .i64 mn], .int .i64 (k : Int), .agg [.int .i64 x.op, .int .i64 x.a, .int .i64 x.b, .str x.text], .sl lo2 1 (bv L)] (fun _ => .bool (dT cs cl.length o k own x)) := by
  obtain ⟨op, a, b, t⟩ := x
  dsimp only at hx ⊢
  refine aJ Tryz.func184 rfl Tryz.ntmps184 rfl rfl fun w0 _ hG => ?_
  have hl1 := am.len lo cl
  have hl2 := aT.len lo cs
  have hll := aS L
  have hLn : L.length ≤ 1048576 := by rw [hL, List.length_reverse]; exact Nat.le_trans (ip _ _ _) hcs.1
  have hkl : k < cs.length := (List.getElem?_eq_some_iff.1 hk).1
  have hrk : (cs.map (aT.tw lo))[k]? = some [.bool own.block, .int .i64 own.params, .int .i64 own.slots, .sl lo 4 (own.instrs.map (aD.tw lo))] := by rw [List.getElem?_map, hk]; rfl
  have hil := aD.len lo own.instrs
  have hin : own.instrs.length ≤ 1048576 := (hcs.2 own (List.mem_of_getElem? hk)).1
  repeat' (first | ((with_reducible apply o_y); exact y_; rfl) | refine bf ?_ | (refine aI ?_; intro ss bb) | refine aA ?_ | refine aw hG hst (rT _) ?_ | with_reducible refine bx (id := 3) ?_ | with_reducible refine ab rfl ?_ | (with_reducible first | apply ag | apply aa | apply ah | apply ac))
  refine ⟨ag ?_⟩
  generalize ss = s9; generalize bb = b9
  apply en (X := Unit) [0, 1, 3, 6, 9] (fun _ => [(60, .bool (!decide (dn ⟨op, a, b, t⟩)))]) (fun _ => [(s9, b9, .box [.bool own.block, .int .i64 own.params, .int .i64 own.slots, .sl lo 4 (own.instrs.map (aD.tw lo))])]) (fun _ => True)
  case hk => (repeat (first | exact gn.nil | (apply gn.cons; rfl)))
  · clear hrk hk hL hbf hinv hse hl1 hl2 hll hLn hin hil
    repeat' (first | ((with_reducible apply o_y); exact y_; rfl) | refine aw hG hst (bz _ _ _) ?_ | with_reducible refine ab rfl ?_ | (with_reducible first | apply aa | apply ah) | refine aP rfl rfl rfl rr_ ?_ | refine aO rfl rfl rfl rr_ rfl rfl rfl ?_ | refine dK rfl rfl rfl rr_ rfl rfl ?_ | (refine bm rfl rfl rfl rr_ (fun hg => ?_) (fun hg => ?_)) | (refine bV rfl rfl rfl rr_ (fun hg => ?_) (fun hg => ?_)))
    all_goals
      refine dh () trivial (.of _ (bj.envCons (fN rfl ?_) bj.envNil) od_ pk_)
      simp only [Bool.not_eq_true', Bool.not_eq_false', ne_eq, Decidable.not_not] at *
      first
        | (simp [dn, *]; done)
  intro _ _
  by_cases hh : dn ⟨op, a, b, t⟩
  case neg =>
    have hB : dT cs cl.length o k own ⟨op, a, b, t⟩ = false := by unfold dT; rw [decide_eq_false hh]; rfl
    rw [hB, decide_eq_false hh, Bool.not_false]
    repeat' (first | ((with_reducible apply o_y); exact y_; rfl) | with_reducible refine ab rfl ?_ | (with_reducible first | apply ag | apply aa | apply ah | apply ac | apply au | apply ad) | refine av rfl rr_ ?_)
    refine ao x_ rfl (.tmp _ _ rfl) (fun _ => ?_)
    exact Fin.flat rfl
  have hB : dT cs cl.length o k own ⟨op, a, b, t⟩ = cz cs cl.length o k own ⟨op, a, b, t⟩ := by unfold dT; rw [decide_eq_true hh]; rfl
  rw [hB, decide_eq_true hh, Bool.not_true]
  have hlabt : (!inR b 0 ((L.length : Int) - 1)) = false → (0 ≤ b ∧ b ≤ (L.length : Int) - 1) ∧ ∃ (q v : Nat) (y : aT), (L.length : Int) - 1 - b = q ∧ (bv L)[q]? = some [.int .i64 (v : Int)] ∧ cs[v]? = some y ∧ dI cs o k b = some y := fun h => by
    have h2 : 0 ≤ b ∧ b ≤ (L.length : Int) - 1 := by simpa [inR] using h
    exact ⟨h2, r6 hinv hkl hL h2⟩
  have hlabf : (!inR b 0 ((L.length : Int) - 1)) = true → qd cs o k ⟨op, a, b, t⟩ = false := fun h => by
    have h2 : ¬ (0 ≤ b ∧ b ≤ (L.length : Int) - 1) := by
      intro h3
      rw [pQ h3] at h; cases h
    unfold qd
    dsimp only
    rw [ln hinv hkl hL h2]
  unfold fX at hbf
  dsimp only at hbf
  clear hB hinv hL hk
  repeat' (first | ((with_reducible apply o_y); exact y_; rfl) | with_reducible refine aF (by kernel_rfl) (by kernel_rfl) ?_ | with_reducible refine aN ?_ | with_reducible refine aE rfl ?_ | refine aX rfl rfl rfl rr_ ?_ | refine aV rfl rfl rfl rr_ rfl rfl rfl ?_ | (refine dD rfl rfl rfl rr_ (fun hg => ?_) (fun hg => ?_)) | ((with_reducible apply d_y); exact y_; rfl) | refine aw hG hst (bz _ _ _) ?_ | refine aw hG hst (qo _ hx) ?_ | refine aw hG hst (hse _ hx) ?_ | refine aw hG hst (e8 hst _ hx) ?_ | refine ay hG hst (bz _ _ _) ?_ | refine ay hG hst (hse _ hx) ?_ | with_reducible refine bx (id := 18) ?_ | with_reducible refine bx (id := 31) ?_ | with_reducible refine ab rfl ?_ | (with_reducible first | apply ag | apply aa | apply ah | apply ac | apply ai | apply ap | apply au | apply ad | apply ak | apply aB) | refine aP rfl rfl rfl rr_ ?_ | refine aO rfl rfl rfl rr_ rfl rfl rfl ?_ | (refine bV rfl rfl rfl rr_ (fun hg => ?_) (fun hg => ?_)) | refine az rfl rr_ ?_ | (refine ae rfl rr_ dd_ ?_) | (refine bD rfl rr_ (fun hc => ?_) (fun hc => ?_)) | (refine cf rfl rr_ (fun hc => ?_) (fun hc => ?_)))
  all_goals first
    | (refine ao x_ rfl (.tmp _ _ rfl) (fun _ => ?_)
       clear hlabt hrk hbf hl1 hl2 hll hil hcs hse hh
       refine aZ ?_
       first
         | (simp [cz, *]; done)
         | (have hv := hlabf (by assumption)
            clear hlabf
            subst_vars
            simp [cz, hv]; done))
    | (refine ⟨?_⟩
       have h15 : op = 15 := by assumption
       obtain ⟨ha, y, hy, hyb⟩ := hbf h15
       obtain ⟨c, rfl⟩ : ∃ c : Nat, a = c := ⟨a.toNat, by omega⟩
       rw [Int.toNat_natCast] at hy
       have hry : (cs.map (aT.tw lo))[c]? = some [.bool true, .int .i64 y.params, .int .i64 y.slots, .sl lo 4 (y.instrs.map (aD.tw lo))] := by rw [List.getElem?_map, hy, ← hyb]; rfl
       have cin := bz (G := G) (c : Int) 0 ((k - 1 : Nat) : Int)
       rw [pQ (by omega)] at cin
       repeat' (first | with_reducible refine aF (by kernel_rfl) (by kernel_rfl) ?_ | with_reducible refine aN ?_ | with_reducible refine aE rfl ?_ | refine aX rfl rfl rfl rr_ ?_ | ((with_reducible apply d_y); exact y_; rfl) | refine ay hG hst (cin) ?_ | (with_reducible first | apply ag | apply ac | apply au | apply ad | apply ak))
       refine ao x_ rfl (.tmp _ _ rfl) (fun _ => ?_)
       refine aZ ?_
       simp [cz, h15]; done)
    | (refine ⟨?_⟩
       obtain ⟨hb, q, v, y, hq, hrow, hy, hlev⟩ := hlabt (by assumption)
       obtain ⟨c, rfl⟩ : ∃ c : Nat, b = c := ⟨b.toNat, by omega⟩
       obtain rfl : q = L.length - 1 - c := by omega
       have hry : (cs.map (aT.tw lo))[v]? = some [.bool y.block, .int .i64 y.params, .int .i64 y.slots, .sl lo 4 (y.instrs.map (aD.tw lo))] := by rw [List.getElem?_map, hy]; rfl
       clear hlabt hlabf hbf hq
       repeat' (first | ((with_reducible apply o_y); exact y_; rfl) | ((with_reducible apply qR (id := 18) 15); kernel_rfl; kernel_rfl; kernel_rfl; (repeat (first | exact Cut.zero _ | apply Cut.succ)); rfl; rfl; rfl; rfl; rfl; kernel_rfl; rfl) | ((with_reducible apply u_y); exact yu_; rfl) | (with_reducible refine wv ?_; intro ss bb) | refine aA ?_ | refine aw hG hst (bz _ _ _) ?_ | with_reducible refine ab rfl ?_ | (with_reducible first | apply ag | apply aa | apply ah | apply ac | apply ap | apply au | apply ad | apply ak) | (refine ae rfl rr_ dd_ ?_) | (refine aj rfl rr_ dd_ ?_))
       all_goals first
         | (refine ao x_ rfl (.tmp _ _ rfl) (fun _ => ?_)
            refine aZ ?_
            clear hrk hl1 hl2 hll hil hcs hse hh
            subst_vars
            simp [cz, qd, hlev]; done))
end
set_option maxRecDepth 20000
def fO (o : List Int) (n k i : Nat) : List Int := ((eM o n (k : Int)).take i).reverse
theorem sU (o : List Int) (n k i : Nat) : (fO o n k i).length ≤ n := by
  have := ip o n (k : Int)
  simp [fO]; omega
theorem px {o : List Int} {n k i : Nat} {v : Int} (h : (eM o n (k : Int))[i]? = some v) : v :: fO o n k i = fO o n k (i + 1) := by
  unfold fO
  rw [List.take_add_one, h]; simp
theorem sE {o : List Int} {n k i : Nat} (h : (eM o n (k : Int))[i]? = none) : fO o n k i = (eM o n (k : Int)).reverse := by
  unfold fO
  rw [List.take_of_length_le (List.getElem?_eq_none_iff.1 h)]
set_option maxRecDepth 8000 in
set_option maxHeartbeats 8000000 in
theorem rK (f lo lo2 : Nat) (cl : List am) (cen : TV) (cs : List aT) (mn : Int) (hcl : cl.length ≤ 1048576) (hcs : cs.length ≤ 1048576 ∧ ∀ y ∈ cs, aT.small 1048576 y) (o : List Int) (hinv : cB cs.length o) (k : Nat) (own : aT) (hk : cs[k]? = some own)
    (hbf : ∀ x ∈ own.instrs, fX cs k x) :
    Ct Tryz.prog GL 109 [.cp f [.sl lo 3 (cl.map (am.tw lo)), .sl lo 4 (cs.map (aT.tw lo)), cen, .int .i64 mn], .int .i64 (k : Int), .sl lo2 1 (bv o)] (fun _ => .bool (tb cs cl.length o k own)) := by
  refine aJ Tryz.func109 rfl Tryz.ntmps109 rfl rfl fun w0 _ hG => ?_
  have hst := cZ
  have hkl : k < cs.length := (List.getElem?_eq_some_iff.1 hk).1
  have hsm := hcs.2 own (List.mem_of_getElem? hk)
  have hiq := fun L hL x hx hb hsl => qp hst y8 f lo w0.heap.size cl cen cs mn hcl hcs o hinv k own hk hsl L hL x hx hb
  have hpre := lx (cs := cs) (nc := cl.length) (o := o) (k := k) (own := own)
  have hcF := uZ (cs := cs) (nc := cl.length) (o := o) (k := k) (x := own)
  have hcT := ub (cs := cs) (nc := cl.length) (o := o) (k := k) (x := own)
  unfold et mV at hcF hcT
  have hrk : (cs.map (aT.tw lo))[k]? = some [.bool own.block, .int .i64 own.params, .int .i64 own.slots, .sl lo 4 (own.instrs.map (aD.tw lo))] := by rw [List.getElem?_map, hk]; rfl
  clear hk
  have hgen : ∀ x ∈ own.instrs, dT cs cl.length o k own x = true → True := fun _ _ _ => trivial
  clear hgen
  have hB : ∃ B : aD → Bool, B = dT cs cl.length o k own := ⟨_, rfl⟩
  obtain ⟨B, hB⟩ := hB
  rw [← hB] at hcF hcT hpre
  have hiq2 : ∀ (L : List Int), L = (eM o cs.length (k : Int)).reverse → ∀ x : aD, x.text.size ≤ 1048576 → fX cs k x → 0 ≤ own.slots ∧ own.slots ≤ 30 → Ct Tryz.prog GL 184 [.cp f [.sl lo 3 (cl.map (am.tw lo)), .sl lo 4 (cs.map (aT.tw lo)), cen, .int .i64 mn], .int .i64 (k : Int), .agg [.int .i64 x.op, .int .i64 x.a, .int .i64 x.b, .str x.text], .sl w0.heap.size 1 (bv L)] (fun _ => .bool (B x)) := fun L hL x hx hb hsl => by rw [hB]; exact hiq L hL x hx hb hsl
  clear hiq
  have hcB : tb cs cl.length o k own = tb cs cl.length o k own := rfl
  generalize hC : tb cs cl.length o k own = C at hcF hcT ⊢
  clear hB hcB hC
  obtain ⟨bl, pr, sl, is⟩ := own
  dsimp only at hbf hsm hiq2 hpre hcF hcT hrk
  have hn : is.length ≤ 1048576 := hsm.1
  have ht : ∀ i ∈ is, i.text.size ≤ 1048576 := hsm.2
  have hil := aD.len lo is
  have c1 := bz (G := GL) sl 0 30
  have c2 := bz (G := GL) pr 0 sl
  by_cases h1 : inR sl 0 30 = true
  case neg =>
    rw [hcF fun h => h1 h.1.1]
    rw [Bool.eq_false_iff.2 h1] at c1
    repeat' (first | ((with_reducible apply o_y); exact y_; rfl) | with_reducible refine aF (by kernel_rfl) (by kernel_rfl) ?_ | with_reducible refine aN ?_ | with_reducible refine aE rfl ?_ | refine aV rfl rfl rfl rr_ rfl rfl rfl ?_ | ((with_reducible apply d_y); exact y_; rfl) | refine ay hG hst (c1) ?_ | with_reducible refine ab rfl ?_ | (with_reducible first | apply ag | apply aa | apply ah | apply ac | apply au | apply ad) | refine av rfl rr_ ?_)
    refine ao x_ rfl (.tmp _ _ rfl) (fun _ => ?_)
    exact Fin.flat rfl
  by_cases h2 : inR pr 0 sl = true
  case neg =>
    rw [hcF fun h => h2 h.1.2.1]
    rw [h1] at c1
    rw [Bool.eq_false_iff.2 h2] at c2
    repeat' (first | ((with_reducible apply o_y); exact y_; rfl) | with_reducible refine aF (by kernel_rfl) (by kernel_rfl) ?_ | with_reducible refine aN ?_ | with_reducible refine aE rfl ?_ | refine aX rfl rfl rfl rr_ ?_ | refine aV rfl rfl rfl rr_ rfl rfl rfl ?_ | ((with_reducible apply d_y); exact y_; rfl) | refine ay hG hst (c1) ?_ | refine ay hG hst (c2) ?_ | with_reducible refine ab rfl ?_ | (with_reducible first | apply ag | apply aa | apply ah | apply ac | apply au | apply ad) | refine av rfl rr_ ?_)
    refine ao x_ rfl (.tmp _ _ rfl) (fun _ => ?_)
    exact Fin.flat rfl
  rw [h1] at c1
  rw [h2] at c2
  by_cases h3 : is.length ≤ 900
  case neg =>
    rw [hcF fun h => h3 h.1.2.2]
    repeat' (first | ((with_reducible apply o_y); exact y_; rfl) | with_reducible refine aF (by kernel_rfl) (by kernel_rfl) ?_ | with_reducible refine aN ?_ | with_reducible refine aE rfl ?_ | refine aX rfl rfl rfl rr_ ?_ | ((with_reducible apply d_y); exact y_; rfl) | refine ay hG hst (c1) ?_ | refine ay hG hst (c2) ?_ | with_reducible refine ab rfl ?_ | (with_reducible first | apply ag | apply aa | apply ah | apply ac | apply au | apply ad) | (refine ae rfl rr_ dd_ ?_))
    refine ao x_ rfl (.tmp _ _ rfl) (fun _ => ?_)
    exact Fin.flat rfl
  have hsl := of_decide_eq_true h1
  repeat' (first | ((with_reducible apply o_y); exact y_; rfl) | with_reducible refine aF (by kernel_rfl) (by kernel_rfl) ?_ | with_reducible refine aN ?_ | with_reducible refine aE rfl ?_ | refine aX rfl rfl rfl rr_ ?_ | ((with_reducible apply d_y); exact y_; rfl) | refine dk ?_ | refine ay hG hst (c1) ?_ | refine ay hG hst (c2) ?_ | with_reducible refine ab rfl ?_ | (with_reducible first | apply ag | apply aa | apply ah | apply ac | apply ai | apply ap) | (refine aj rfl rr_ dd_ ?_))
  have hinv' : cB o.length o := by rw [hinv.1]; exact hinv
  have hol : o.length = cs.length := hinv.1
  have hcl2 := hcs.1
  apply aK (X := Nat) [0, 1, 2, 7] (fun i => [(8, .sl w0.heap.size 1 (bv (fO o cs.length k i))), (9, .int .i64 (upN o i (k : Int)))]) (fun _ => []) (fun i => i ≤ cs.length) (fun i => cs.length - i) 0 (Nat.zero_le _)
  exact kp_; (repeat (first | exact bj.envNil | refine bj.envCons we_ ?_))
  · exact .refl _
  intro i hi
  try dsimp only at hi ⊢
  have hup := oH hinv' i (k : Int) (.inr ⟨by omega, by omega⟩)
  have hcu := jQ hinv' cs.length (k : Int) i (.inr ⟨by omega, by omega, by omega⟩)
  have hLl := sU o cs.length k i
  have hLr := aS (fO o cs.length k i)
  by_cases hat : 0 ≤ upN o i (k : Int)
  · obtain ⟨j, hj⟩ : ∃ j : Nat, upN o i (k : Int) = j := ⟨(upN o i (k : Int)).toNat, by omega⟩
    have hs := gm o i (k : Int)
    rw [if_neg (by omega), hj] at hs
    rw [if_pos hat, hj] at hcu
    rw [hj] at hup
    have hin : i < cs.length := Nat.lt_of_lt_of_le (List.getElem?_eq_some_iff.1 hcu).1 (ip _ _ _)
    have hrow := dW (o := o) (j := j) (by omega)
    have hstep := px hcu
    generalize fO o cs.length k i = L at hLl hLr hstep ⊢
    have hnew : [[TV.int .i64 (j : Int)]] ++ bv L = bv (fO o cs.length k (i + 1)) := by rw [← hstep]; rfl
    rw [hj]
    repeat' (first | ((with_reducible apply o_y); exact y_; rfl) | (refine la ?_; intro ss bb) | (refine oU ?_; intro bb) | with_reducible refine ab rfl ?_ | (with_reducible first | apply ag | apply aa | apply ah | apply ac | apply ai | apply ap | apply aB) | (refine ae rfl rr_ dd_ ?_))
    refine uV (t := 8) rfl ?_ (.head _) ?_
    · simp [hLr]; omega
    rw [hnew]
    exact aG (i + 1) (by omega) (by omega) (.of _ nw_ od_ pk_)
  · rw [if_neg hat] at hcu
    have hend := sE hcu
    rw [hend] at hLl hLr ⊢
    clear hend hcu
    have hins := hiq2 _ rfl
    clear hiq2
    generalize (eM o cs.length (k : Int)).reverse = L at hLl hLr hins ⊢
    repeat' (first | ((with_reducible apply o_y); exact y_; rfl) | with_reducible refine ab rfl ?_ | (with_reducible first | apply ag | apply aa | apply ah | apply ac | apply ai | apply aH | apply ar | apply aq) | (refine aj rfl rr_ dd_ ?_))
    apply aK (X := Nat) [0, 1, 7, 8] (fun q => [(10, .int .i64 (q : Int))]) (fun _ => []) (fun q => q ≤ is.length ∧ ∀ j, j < q → ∀ h : j < is.length, B is[j] = true) (fun q => is.length - q) 0 ⟨Nat.zero_le _, by omega⟩
    exact kp_; (repeat (first | exact bj.envNil | refine bj.envCons we_ ?_))
    · exact .refl _
    rintro q ⟨hq, hqa⟩
    try dsimp only
    by_cases hlt : q < is.length
    · have hra := gc (lo := lo) hlt
      have hmem : is[q] ∈ is := List.getElem_mem hlt
      have hxq := ht _ hmem
      have hct := hins is[q] hxq (hbf _ hmem) hsl
      have hnx : B is[q] = true → ∀ j, j < q + 1 → ∀ h : j < is.length, B is[j] = true := fun h => bT hqa fun _ => h
      have hbad : B is[q] = false → C = false := fun h => hcF fun k => by
        have := k.2.1 _ hmem
        rw [h] at this; cases this
      generalize is[q] = x at hra hct hnx hbad
      cases hBx : B x
      · rw [hBx] at hct
        rw [hbad hBx]
        repeat' (first | ((with_reducible apply o_y); exact y_; rfl) | refine aw hG hst (hct) ?_ | with_reducible refine ab rfl ?_ | (with_reducible first | apply ag | apply aa | apply ah | apply ac | apply ai | apply ap | apply au | apply ad | apply ak) | refine av rfl rr_ ?_ | (refine ae rfl rr_ dd_ ?_))
        refine ao x_ rfl (.tmp _ _ rfl) (fun _ => ?_)
        exact Fin.flat rfl
      · rw [hBx] at hct
        repeat' (first | ((with_reducible apply o_y); exact y_; rfl) | refine aw hG hst (hct) ?_ | with_reducible refine ab rfl ?_ | (with_reducible first | apply ag | apply aa | apply ah | apply ac | apply ai | apply ap | apply aB) | refine az rfl rr_ ?_ | (refine ae rfl rr_ dd_ ?_))
        exact aG (q + 1) ⟨by omega, hnx hBx⟩ (by omega) (.of _ nw_ od_ pk_)
    · have hall : ∀ y ∈ is, B y = true := fun y hy => by
        obtain ⟨j, hj, rfl⟩ := List.getElem_of_mem hy
        exact hqa j (by omega) hj
      have hp := hpre hall
      have hdep := jk hst yU lo lo bl pr sl is hn ht hp
      have hnew := ue (cG is)
      have hCe : C = (cG is).isSome := by
        rw [← lC is hp]
        cases hd : (bP is).isSome
        · exact hcF fun h => by rw [hd] at h; exact absurd h.2.2 (by simp)
        · exact hcT ⟨⟨h1, h2, h3⟩, hall, hd⟩
      rw [hCe]
      rw [ik lo] at hdep
      unfold dR dO at hdep hnew
      generalize (cG is).getD [] = ds at hdep hnew
      generalize (cG is).isSome = ok at hdep hnew ⊢
      repeat' (first | ((with_reducible apply o_y); exact y_; rfl) | ((with_reducible apply e7); rfl; kernel_rfl; exact hG; exact hst; exact hdep; ((repeat (first | exact dU.nil | ((with_reducible apply dU.cons); rfl; (with_reducible exact d7.same _))))); exact hnew; rintro ⟨ss, bb⟩ -; refine eb ?_) | with_reducible refine ab rfl ?_ | (with_reducible first | apply ag | apply aa | apply ah | apply ac | apply aH | apply au | apply ar | apply aq) | (refine aj rfl rr_ dd_ ?_))
      refine ao x_ rfl (.tmp _ _ rfl) (fun _ => ?_)
      exact Fin.flat rfl
set_option maxRecDepth 20000
section
variable {G : World → Prop}
set_option maxRecDepth 4000 in
set_option maxHeartbeats 4000000 in
theorem gB (hst : aY G) (lo : Nat) (l : List am) (hsm : l.length ≤ 1048576 ∧ ∀ y ∈ l, am.small 1048576 y) : Ct Tryz.prog G 106 [.sl lo 3 (l.map (am.tw lo))] (fun _ => .bool (bO l)) := by
  refine aJ Tryz.func106 rfl Tryz.ntmps106 rfl rfl fun w0 _ hG => ?_
  have hlen := am.len lo l
  have hbl := am.len w0.heap.size bH
  rw [ef] at hbl
  have hl1 := hsm.1
  by_cases hl : 16 ≤ l.length ∧ l.length ≤ 24
  · repeat' (first | ((with_reducible apply o_y); exact y_; rfl) | (refine aI ?_; intro ss bb) | refine je ?_ | refine aA ?_ | ((with_reducible apply w8); rfl; kernel_rfl; exact hG; exact hst; exact sq hst [.str ⟨#[]⟩, .bool false, .nils, .nils, .nils]; (apply dU.cons; rfl; exact d7.mpSame List.mem_cons_self); exact dU.nil) | with_reducible refine ab rfl ?_ | (with_reducible first | apply ag | apply aa | apply ah | apply ac | apply ai | apply ap) | refine aP rfl rfl rfl rr_ ?_ | (refine bC rfl rfl rfl rr_ dd_ ?_) | (refine aj rfl rr_ dd_ ?_))
    apply aK (X := Nat) [0, 4] (fun i => [(5, .int .i64 (i : Int))]) (fun _ => []) (fun i => i ≤ l.length ∧ ∀ j, j < i → ∀ h : j < l.length, dp l j l[j]) (fun i => l.length - i) 0 ⟨Nat.zero_le _, by simp⟩
    exact kp_; (repeat (first | exact bj.envNil | refine bj.envCons we_ ?_))
    · exact .nil _
    rintro i ⟨hi, hk⟩
    try dsimp only
    by_cases hlt : i < l.length
    · have hra : (l.map (am.tw lo))[i]? = some (l[i].tw lo) := bg hlt
      have hbi := hsm.2 _ (List.getElem_mem hlt)
      have hbad := hY hlt
      have hks : dp l i l[i] → ∀ j, j < i + 1 → ∀ h : j < l.length, dp l j l[j] := fun ho => bT hk fun _ => ho
      generalize l[i] = x at hra hbi hbad hks
      rw [show x.tw lo = [.str x.name, .int .i64 x.parent, .sl lo 1 (cL x.fields)] from rfl] at hra
      by_cases hlow : i < 16
      · obtain ⟨bi, hb, _, _, h3, _⟩ := ga hlow
        have hrb : (bH.map (am.tw w0.heap.size))[i]? = some [.str bi.name, .int .i64 bi.parent, .sl w0.heap.size 1 (cL bi.fields)] := by rw [List.getElem?_map, hb]; rfl
        rw [kf hlow hb] at hbad hks
        have hbf : bi.fields.length ≤ 1048576 := by rw [← h3]; unfold fb; split <;> simp
        have heq := fZ (G := G) lo w0.heap.size x.fields bi.fields hbi.2.1 hbf
        clear h3
        by_cases ho : x.name = bi.name ∧ x.parent = bi.parent ∧ x.fields = bi.fields
        · have n1 : ¬ x.name ≠ bi.name := fun h => h ho.1
          have n2 : ¬ x.parent ≠ bi.parent := fun h => h ho.2.1
          rw [decide_eq_true ho.2.2] at heq
          repeat' (first | ((with_reducible apply o_y); exact y_; rfl) | (refine aI ?_; intro ss bb) | refine aA ?_ | with_reducible refine aF (by kernel_rfl) (by kernel_rfl) ?_ | with_reducible refine aN ?_ | with_reducible refine aE rfl ?_ | refine aX rfl rfl rfl rr_ ?_ | (refine bW rfl rfl rfl rr_ dd_ ?_) | ((with_reducible apply d_y); exact y_; rfl) | refine ay hG hst (heq) ?_ | with_reducible refine ab rfl ?_ | (with_reducible first | apply ag | apply aa | apply ah | apply ac | apply ai | apply aH | apply ap | apply ar | apply aq) | refine az rfl rr_ ?_ | (refine ae rfl rr_ dd_ ?_))
          exact aG (i + 1) ⟨by omega, hks ho⟩ (by omega) (.of _ nw_ od_ (dV.nil _))
        · rw [hbad ho]
          clear hks hbad
          by_cases hfe : x.fields = bi.fields
          · rw [decide_eq_true hfe] at heq
            repeat' (first | ((with_reducible apply o_y); exact y_; rfl) | (refine aI ?_; intro ss bb) | refine aA ?_ | with_reducible refine aF (by kernel_rfl) (by kernel_rfl) ?_ | with_reducible refine aN ?_ | with_reducible refine aE rfl ?_ | refine aX rfl rfl rfl rr_ ?_ | refine aV rfl rfl rfl rr_ rfl rfl rfl ?_ | (refine bJ rfl rfl rfl rr_ (fun hg => ?_) (fun hg => ?_)) | ((with_reducible apply d_y); exact y_; rfl) | refine ay hG hst (heq) ?_ | with_reducible refine ab rfl ?_ | (with_reducible first | apply ag | apply aa | apply ah | apply ac | apply ai | apply aH | apply ap | apply au | apply ar | apply aq | apply ad | apply ak) | refine av rfl rr_ ?_ | refine az rfl rr_ ?_ | (refine ae rfl rr_ dd_ ?_))
            all_goals first
              | (exfalso; exact ho ⟨Decidable.of_not_not (by assumption), Decidable.of_not_not (by assumption), hfe⟩)
              | (refine ao x_ rfl (.tmp _ _ rfl) (fun _ => ?_)
                 exact Fin.flat rfl)
          · rw [decide_eq_false hfe] at heq
            repeat' (first | ((with_reducible apply o_y); exact y_; rfl) | (refine aI ?_; intro ss bb) | refine aA ?_ | with_reducible refine aF (by kernel_rfl) (by kernel_rfl) ?_ | with_reducible refine aN ?_ | with_reducible refine aE rfl ?_ | refine aX rfl rfl rfl rr_ ?_ | refine aV rfl rfl rfl rr_ rfl rfl rfl ?_ | (refine bJ rfl rfl rfl rr_ (fun hg => ?_) (fun hg => ?_)) | ((with_reducible apply d_y); exact y_; rfl) | refine ay hG hst (heq) ?_ | with_reducible refine ab rfl ?_ | (with_reducible first | apply ag | apply aa | apply ah | apply ac | apply ai | apply ap | apply au | apply ad | apply ak) | refine av rfl rr_ ?_ | (refine ae rfl rr_ dd_ ?_))
            all_goals
              refine ao x_ rfl (.tmp _ _ rfl) (fun _ => ?_)
              exact Fin.flat rfl
      · rw [jB hlow] at hbad hks
        obtain ⟨nm, par, fs⟩ := x
        dsimp only at hra hbi hbad hks
        have hx1 : nm.size ≤ 1048576 := hbi.1
        have hx2 : fs.length ≤ 1048576 := hbi.2.1
        have hx3 : ∀ y ∈ fs, ByteArray.size y ≤ 1048576 := hbi.2.2
        have hfl := bX fs
        clear hbl
        repeat' (first | ((with_reducible apply o_y); exact y_; rfl) | (refine aI ?_; intro ss bb) | refine aA ?_ | with_reducible refine bx (id := 12) ?_ | with_reducible refine ab rfl ?_ | (with_reducible first | apply ag | apply aa | apply ah | apply ac | apply ai | apply ap) | (refine ae rfl rr_ dd_ ?_) | (refine aj rfl rr_ dd_ ?_))
        refine ⟨ag ?_⟩
        generalize ss = s3; generalize bb = b3
        apply en (X := Unit) [0, 4, 5, 6] (fun _ => [(88, .bool (!decide (cH l i ⟨nm, par, fs⟩)))]) (fun _ => [(s3, b3, .box [.str nm, .int .i64 par, .sl lo 1 (cL fs)])]) (fun _ => True)
        case hk => (repeat (first | exact gn.nil | (apply gn.cons; rfl)))
        · repeat' (first | ((with_reducible apply o_y); exact y_; rfl) | refine aw hG hst (e8 hst _ hx1) ?_ | refine aw hG hst (bz _ _ _) ?_ | with_reducible refine ab rfl ?_ | (with_reducible first | apply aa | apply ah) | refine aP rfl rfl rfl rr_ ?_ | refine aO rfl rfl rfl rr_ rfl rfl rfl ?_ | refine dK rfl rfl rfl rr_ rfl rfl ?_ | (refine bm rfl rfl rfl rr_ (fun hg => ?_) (fun hg => ?_)) | (refine bV rfl rfl rfl rr_ (fun hg => ?_) (fun hg => ?_)))
          all_goals
            refine dh () trivial (.of _ (bj.envCons (fN rfl ?_) bj.envNil) od_ pk_)
            clear hbad hks hk hra hbi
            simp only [Bool.not_eq_true', Bool.not_eq_false', inR, decide_eq_true_eq, decide_eq_false_iff_not] at *
            by_cases h8 : (8 : Int) < (fs.length : Int)
            all_goals (try simp only [h8, decide_true, decide_false])
            all_goals first
              | (have : cH l i ⟨nm, par, fs⟩ := ⟨by assumption, by dsimp only; omega, by dsimp only; omega, by dsimp only; omega⟩
                 simp only [decide_eq_true this, Bool.not_true]
                 done)
              | (have : ¬ cH l i ⟨nm, par, fs⟩ := fun h => by
                   obtain ⟨h1, h2, h3, h4⟩ := h
                   dsimp only at h1 h2 h3 h4
                   first
                     | omega
                     | (simp only [h1] at *; done)
                     | (simp_all; done)
                 simp only [decide_eq_false this, Bool.not_false]
                 done)
        intro _ _
        by_cases hh : cH l i ⟨nm, par, fs⟩
        · rw [decide_eq_true hh, Bool.not_true]
          have hh2 := hh.2
          obtain ⟨⟨hp0, hp1⟩, _, hf8⟩ := hh2
          dsimp only at hp0 hp1 hf8
          obtain ⟨p, rfl⟩ : ∃ p : Nat, par = p := ⟨par.toNat, by omega⟩
          have hpl : p < l.length := by omega
          have hrp : (l.map (am.tw lo))[p]? = some (l[p].tw lo) := bg hpl
          have hbp := hsm.2 _ (List.getElem_mem hpl)
          have hpf := fV (x := ⟨nm, (p : Int), fs⟩) rfl (List.getElem?_eq_getElem hpl)
          generalize l[p] = y at hrp hbp hpf
          obtain ⟨pn, pp, pf⟩ := y
          replace hrp : (l.map (am.tw lo))[p]? = some [.str pn, .int .i64 pp, .sl lo 1 (cL pf)] := hrp
          have hx4 : pf.length ≤ 1048576 := hbp.2.1
          have hpl2 := bX pf
          repeat' (first | ((with_reducible apply o_y); exact y_; rfl) | with_reducible refine ab rfl ?_ | (with_reducible first | apply ag | apply aa | apply ah | apply ac | apply ai | apply ap) | refine az rfl rr_ ?_)
          apply aK (X := Nat) [0, 4, 5, 6] (fun k => [(7, .int .i64 (k : Int))]) (fun _ => [(s3, b3, .box [.str nm, .int .i64 (p : Int), .sl lo 1 (cL fs)])]) (fun k => k ≤ i ∧ ∀ y ∈ l.take k, y.name ≠ nm) (fun k => i - k) 0 ⟨Nat.zero_le _, by simp⟩
          exact kp_; (repeat (first | exact bj.envNil | refine bj.envCons we_ ?_))
          · exact .refl _
          rintro k ⟨hki, hkn⟩
          try dsimp only
          by_cases hlk : k < i
          · have hlk2 : k < l.length := by omega
            have hrk : (l.map (am.tw lo))[k]? = some (l[k].tw lo) := bg hlk2
            have hta := bu (p := fun y : am => y.name ≠ nm) hlk2 hkn
            have hmem : l[k] ∈ l.take i := List.mem_take_iff_getElem.2 ⟨k, by omega, rfl⟩
            generalize l[k] = z at hrk hta hmem
            obtain ⟨zn, zp, zf⟩ := z
            replace hrk : (l.map (am.tw lo))[k]? = some [.str zn, .int .i64 zp, .sl lo 1 (cL zf)] := hrk
            by_cases hzn : zn = nm
            · rw [hbad fun h => h.2.1 _ hmem hzn]
              repeat' (first | ((with_reducible apply o_y); exact y_; rfl) | with_reducible refine aF (by kernel_rfl) (by kernel_rfl) ?_ | with_reducible refine aN ?_ | with_reducible refine aE rfl ?_ | ((with_reducible apply d_y); exact y_; rfl) | with_reducible refine ab rfl ?_ | (with_reducible first | apply ag | apply aa | apply ah | apply ac | apply ai | apply ap | apply au | apply ad | apply ak) | (refine ae rfl rr_ dd_ ?_))
              refine ao x_ rfl (.tmp _ _ rfl) (fun _ => ?_)
              exact Fin.flat rfl
            · repeat' (first | ((with_reducible apply o_y); exact y_; rfl) | with_reducible refine aF (by kernel_rfl) (by kernel_rfl) ?_ | with_reducible refine aN ?_ | with_reducible refine aE rfl ?_ | ((with_reducible apply d_y); exact y_; rfl) | with_reducible refine ab rfl ?_ | (with_reducible first | apply ag | apply aa | apply ah | apply ac | apply ai | apply ap | apply aB) | (refine ae rfl rr_ dd_ ?_) | (refine aj rfl rr_ dd_ ?_))
              exact aG (k + 1) ⟨by omega, hta hzn⟩ (by omega) (.of _ nw_ od_ pk_)
          · obtain rfl : k = i := by omega
            clear hlk
            by_cases hhe : pf.length ≤ fs.length ∧ fs.take pf.length = pf
            · have heq := fZ (G := G) lo lo (fs.take pf.length) pf (by simp; omega) hx4
              rw [decide_eq_true hhe.2] at heq
              have hsl : (cL fs).take pf.length = cL (fs.take pf.length) := by simp [cL, List.map_take]
              have hle := hhe.1
              repeat' (first | ((with_reducible apply o_y); exact y_; rfl) | with_reducible refine aF (by kernel_rfl) (by kernel_rfl) ?_ | with_reducible refine aN ?_ | with_reducible refine aE rfl ?_ | refine aX rfl rfl rfl rr_ ?_ | (refine bW rfl rfl rfl rr_ dd_ ?_) | ((with_reducible apply d_y); exact y_; rfl) | refine ic ?_ | refine ay hG hst (heq) ?_ | with_reducible refine ab rfl ?_ | (with_reducible first | apply ag | apply aa | apply ah | apply ac | apply ai | apply aH | apply ap | apply ar | apply aq) | refine az rfl rr_ ?_ | (refine aj rfl rr_ dd_ ?_))
              apply aK (X := Nat) [0, 4, 5, 6] (fun k => [(9, .int .i64 (k : Int))]) (fun _ => [(s3, b3, .box [.str nm, .int .i64 (p : Int), .sl lo 1 (cL fs)])]) (fun k => k ≤ fs.length ∧ ∀ j, j < k → ∀ h : j < fs.length, fieldAt fs j fs[j] = true) (fun k => fs.length - k) 0 ⟨Nat.zero_le _, by omega⟩
              exact kp_; (repeat (first | exact bj.envNil | refine bj.envCons we_ ?_))
              · exact .refl _
              rintro q ⟨hq, hqa⟩
              try dsimp only
              by_cases hqf : q < fs.length
              · have hfr := dr hqf
                have hqs := hx3 _ (List.getElem_mem hqf)
                have hqb := jt hqf
                have hqn : fieldAt fs q fs[q] = true → ∀ j, j < q + 1 → ∀ h : j < fs.length, fieldAt fs j fs[j] = true := fun h => bT hqa fun _ => h
                generalize fs[q] = f at hfr hqs hqb hqn
                have hname := e8 (G := G) hst f hqs
                have hhas := qP (G := G) lo (fs.take q) f (by simp; omega)
                have hsq : (cL fs).take q = cL (fs.take q) := by simp [cL, List.map_take]
                have hqle : q ≤ fs.length := hq
                by_cases hqo : fieldAt fs q f = true
                · have hqo2 := hqo
                  unfold fieldAt at hqo2
                  rw [Bool.and_eq_true, Bool.not_eq_true'] at hqo2
                  rw [hqo2.1] at hname
                  rw [hqo2.2] at hhas
                  repeat' (first | ((with_reducible apply o_y); exact y_; rfl) | with_reducible refine aF (by kernel_rfl) (by kernel_rfl) ?_ | with_reducible refine aN ?_ | with_reducible refine aE rfl ?_ | refine aX rfl rfl rfl rr_ ?_ | ((with_reducible apply d_y); exact y_; rfl) | refine ic ?_ | refine ay hG hst (hname) ?_ | refine ay hG hst (hhas) ?_ | with_reducible refine ab rfl ?_ | (with_reducible first | apply ag | apply aa | apply ah | apply ac | apply ai | apply ap | apply aB) | refine az rfl rr_ ?_ | (refine ae rfl rr_ dd_ ?_))
                  exact aG (q + 1) ⟨by omega, hqn hqo⟩ (by omega) (.of _ nw_ od_ pk_)
                · rw [hbad fun h => hqb (Bool.eq_false_iff.2 hqo) h.2.2.2]
                  by_cases hqs1 : ce f.data.toList = true
                  · have hqs2 : iP (fs.take q) f = true := by
                      unfold fieldAt at hqo
                      rw [hqs1, Bool.true_and] at hqo
                      simpa using hqo
                    rw [hqs1] at hname
                    rw [hqs2] at hhas
                    repeat' (first | ((with_reducible apply o_y); exact y_; rfl) | with_reducible refine aF (by kernel_rfl) (by kernel_rfl) ?_ | with_reducible refine aN ?_ | with_reducible refine aE rfl ?_ | refine aX rfl rfl rfl rr_ ?_ | ((with_reducible apply d_y); exact y_; rfl) | refine ic ?_ | refine ay hG hst (hname) ?_ | refine ay hG hst (hhas) ?_ | with_reducible refine ab rfl ?_ | (with_reducible first | apply ag | apply aa | apply ah | apply ac | apply ai | apply ap | apply au | apply ad | apply ak) | refine av rfl rr_ ?_ | (refine ae rfl rr_ dd_ ?_))
                    refine ao x_ rfl (.tmp _ _ rfl) (fun _ => ?_)
                    exact Fin.flat rfl
                  · rw [Bool.eq_false_iff.2 hqs1] at hname
                    repeat' (first | ((with_reducible apply o_y); exact y_; rfl) | with_reducible refine aF (by kernel_rfl) (by kernel_rfl) ?_ | with_reducible refine aN ?_ | with_reducible refine aE rfl ?_ | refine aV rfl rfl rfl rr_ rfl rfl rfl ?_ | ((with_reducible apply d_y); exact y_; rfl) | refine ay hG hst (hname) ?_ | with_reducible refine ab rfl ?_ | (with_reducible first | apply ag | apply aa | apply ah | apply ac | apply ai | apply ap | apply au | apply ad | apply ak) | refine av rfl rr_ ?_ | (refine ae rfl rr_ dd_ ?_))
                    refine ao x_ rfl (.tmp _ _ rfl) (fun _ => ?_)
                    exact Fin.flat rfl
              · obtain rfl : q = fs.length := by omega
                repeat' (first | ((with_reducible apply o_y); exact y_; rfl) | with_reducible refine ab rfl ?_ | (with_reducible first | apply ag | apply aa | apply ah | apply ac | apply aH | apply ar | apply aq | apply aB) | (refine aj rfl rr_ dd_ ?_))
                exact aG (k + 1) ⟨by omega, hks ⟨hh, hkn, ⟨by rw [hpf]; exact hhe.1, by rw [hpf]; exact hhe.2⟩, fun j hj => hqa j hj hj⟩⟩ (by omega) (.of _ nw_ od_ (dV.nil _))
            · rw [hbad fun h => hhe (by have := h.2.2.1; unfold vG at this; rw [hpf] at this; exact this)]
              by_cases hle : pf.length ≤ fs.length
              · have heq := fZ (G := G) lo lo (fs.take pf.length) pf (by simp; omega) hx4
                rw [decide_eq_false fun h => hhe ⟨hle, h⟩] at heq
                have hsl : (cL fs).take pf.length = cL (fs.take pf.length) := by simp [cL, List.map_take]
                repeat' (first | ((with_reducible apply o_y); exact y_; rfl) | with_reducible refine aF (by kernel_rfl) (by kernel_rfl) ?_ | with_reducible refine aN ?_ | with_reducible refine aE rfl ?_ | refine aX rfl rfl rfl rr_ ?_ | (refine bW rfl rfl rfl rr_ dd_ ?_) | ((with_reducible apply d_y); exact y_; rfl) | refine ic ?_ | refine ay hG hst (heq) ?_ | with_reducible refine ab rfl ?_ | (with_reducible first | apply ag | apply aa | apply ah | apply ac | apply aH | apply au | apply ar | apply aq | apply ad | apply ak) | refine av rfl rr_ ?_ | (refine aj rfl rr_ dd_ ?_))
                refine ao x_ rfl (.tmp _ _ rfl) (fun _ => ?_)
                exact Fin.flat rfl
              · repeat' (first | ((with_reducible apply o_y); exact y_; rfl) | with_reducible refine aF (by kernel_rfl) (by kernel_rfl) ?_ | with_reducible refine aN ?_ | with_reducible refine aE rfl ?_ | refine aV rfl rfl rfl rr_ rfl rfl rfl ?_ | (refine cF rfl rfl rfl rr_ dd_ ?_) | ((with_reducible apply d_y); exact y_; rfl) | with_reducible refine ab rfl ?_ | (with_reducible first | apply ag | apply aa | apply ah | apply ac | apply aH | apply au | apply ar | apply aq | apply ad | apply ak) | refine av rfl rr_ ?_ | (refine aj rfl rr_ dd_ ?_))
                refine ao x_ rfl (.tmp _ _ rfl) (fun _ => ?_)
                exact Fin.flat rfl
        · rw [decide_eq_false hh, Bool.not_false, hbad fun h => hh h.1]
          repeat' (first | ((with_reducible apply o_y); exact y_; rfl) | with_reducible refine ab rfl ?_ | (with_reducible first | apply ag | apply aa | apply ah | apply ac | apply au | apply ad | apply ak) | refine av rfl rr_ ?_)
          refine ao x_ rfl (.tmp _ _ rfl) (fun _ => ?_)
          exact Fin.flat rfl
    · rw [gC hl fun j hj => hk j (by omega)]
      repeat' (first | ((with_reducible apply o_y); exact y_; rfl) | with_reducible refine ab rfl ?_ | (with_reducible first | apply ag | apply aa | apply ah | apply ac | apply aH | apply au | apply ar | apply aq) | (refine aj rfl rr_ dd_ ?_))
      refine ao x_ rfl (.tmp _ _ rfl) (fun _ => ?_)
      exact Fin.flat rfl
  · rw [ix hl]
    repeat' (first | ((with_reducible apply o_y); exact y_; rfl) | with_reducible refine ab rfl ?_ | (with_reducible first | apply ag | apply aa | apply ah | apply ac | apply au | apply ad) | refine aP rfl rfl rfl rr_ ?_ | refine aO rfl rfl rfl rr_ rfl rfl rfl ?_ | (refine bm rfl rfl rfl rr_ (fun hg => ?_) (fun hg => ?_)) | refine av rfl rr_ ?_ | (refine ae rfl rr_ dd_ ?_))
    all_goals first
      | (exfalso; omega)
      | (refine ao x_ rfl (.tmp _ _ rfl) (fun _ => ?_)
         exact Fin.flat rfl)
end
set_option maxRecDepth 20000
section
variable {G : World → Prop}
set_option maxRecDepth 4000 in
set_option maxHeartbeats 4000000 in
theorem mK (hst : aY G) (hse : ∀ s : ByteArray, s.size ≤ 1048576 → Ct Tryz.prog G 182 [.str s] (fun _ => .bool (cm s.data.toList))) (hca : ∀ s : ByteArray, s.size ≤ 1048576 → Ct Tryz.prog G 183 [.str s] (fun _ => .int .i64 (bS s.data.toList)))
    (f lo : Nat) (cl : List am) (cs : List aT) (es : List aW) (mn : Int) (hcl : cl.length ≤ 1048576) (hcs : cs.length ≤ 1048576) (hes : es.length ≤ 1048576 ∧ ∀ y ∈ es, aW.small 1048576 y) :
    Ct Tryz.prog G 107 [.cp f [.sl lo 3 (cl.map (am.tw lo)), .sl lo 4 (cs.map (aT.tw lo)), .sl lo 4 (es.map (aW.tw lo)), .int .i64 mn]] (fun _ => .bool (d8 cl.length cs es)) := by
  refine aJ Tryz.func107 rfl Tryz.ntmps107 rfl rfl fun w0 _ hG => ?_
  have hl1 := am.len lo cl
  have hl2 := aT.len lo cs
  have hl3 := aW.len lo es
  have hel := hes.1
  repeat' (first | ((with_reducible apply o_y); exact y_; rfl) | with_reducible refine ab rfl ?_ | (with_reducible first | apply ag | apply aa | apply ah | apply ac | apply ai))
  apply aK (X := Nat) [0] (fun i => [(3, .int .i64 (i : Int))]) (fun _ => []) (fun i => i ≤ es.length ∧ ∀ j, j < i → ∀ h : j < es.length, dA cl.length cs es[j] ∧ cS es j es[j]) (fun i => es.length - i) 0 ⟨Nat.zero_le _, by omega⟩
  exact kp_; (repeat (first | exact bj.envNil | refine bj.envCons we_ ?_))
  · exact .nil _
  rintro i ⟨hi, hk⟩
  try dsimp only
  by_cases hlt : i < es.length
  · have hra := f5 (lo := lo) hlt
    have hsm := hes.2 _ (List.getElem_mem hlt)
    have hbad : ¬ (dA cl.length cs es[i] ∧ cS es i es[i]) → d8 cl.length cs es = false := ju hlt
    have hks : dA cl.length cs es[i] ∧ cS es i es[i] → ∀ j, j < i + 1 → ∀ h : j < es.length, dA cl.length cs es[j] ∧ cS es j es[j] := fun ho => bT hk fun _ => ho
    generalize es[i] = e at hra hsm hbad hks
    obtain ⟨ow, ec, sel, cd⟩ := e
    dsimp only at hra
    have hss : sel.size ≤ 1048576 := hsm
    have c1 := hse sel hss
    have c2 := hca sel hss
    have c3 := bz (G := G) ow 16 ((cl.length : Int) - 1)
    have c4 := bz (G := G) cd 0 ((cs.length : Int) - 1)
    by_cases h1 : cm sel.data.toList = true
    case neg =>
      rw [hbad fun h => h1 h.1.1.1]
      rw [Bool.eq_false_iff.2 h1] at c1
      repeat' (first | ((with_reducible apply o_y); exact y_; rfl) | (refine aI ?_; intro ss bb) | refine aA ?_ | with_reducible refine aF (by kernel_rfl) (by kernel_rfl) ?_ | with_reducible refine aN ?_ | with_reducible refine aE rfl ?_ | refine aV rfl rfl rfl rr_ rfl rfl rfl ?_ | ((with_reducible apply d_y); exact y_; rfl) | refine ay hG hst (c1) ?_ | with_reducible refine ab rfl ?_ | (with_reducible first | apply ag | apply aa | apply ah | apply ac | apply ai | apply ap | apply au | apply ad | apply ak) | refine av rfl rr_ ?_ | (refine ae rfl rr_ dd_ ?_))
      refine ao x_ rfl (.tmp _ _ rfl) (fun _ => ?_)
      exact Fin.flat rfl
    by_cases h2 : inR ow 16 ((cl.length : Int) - 1) = true
    case neg =>
      rw [hbad fun h => h2 h.1.1.2.1]
      rw [h1] at c1
      rw [Bool.eq_false_iff.2 h2] at c3
      repeat' (first | ((with_reducible apply o_y); exact y_; rfl) | (refine aI ?_; intro ss bb) | refine aA ?_ | with_reducible refine aF (by kernel_rfl) (by kernel_rfl) ?_ | with_reducible refine aN ?_ | with_reducible refine aE rfl ?_ | refine aX rfl rfl rfl rr_ ?_ | refine aV rfl rfl rfl rr_ rfl rfl rfl ?_ | ((with_reducible apply d_y); exact y_; rfl) | refine ay hG hst (c1) ?_ | refine ay hG hst (c3) ?_ | with_reducible refine ab rfl ?_ | (with_reducible first | apply ag | apply aa | apply ah | apply ac | apply ai | apply ap | apply au | apply ad | apply ak) | refine av rfl rr_ ?_ | (refine ae rfl rr_ dd_ ?_))
      refine ao x_ rfl (.tmp _ _ rfl) (fun _ => ?_)
      exact Fin.flat rfl
    by_cases h3 : inR cd 0 ((cs.length : Int) - 1) = true
    case neg =>
      rw [hbad fun h => h3 h.1.1.2.2]
      rw [h1] at c1
      rw [h2] at c3
      rw [Bool.eq_false_iff.2 h3] at c4
      repeat' (first | ((with_reducible apply o_y); exact y_; rfl) | (refine aI ?_; intro ss bb) | refine aA ?_ | with_reducible refine aF (by kernel_rfl) (by kernel_rfl) ?_ | with_reducible refine aN ?_ | with_reducible refine aE rfl ?_ | refine aX rfl rfl rfl rr_ ?_ | refine aV rfl rfl rfl rr_ rfl rfl rfl ?_ | ((with_reducible apply d_y); exact y_; rfl) | refine ay hG hst (c1) ?_ | refine ay hG hst (c3) ?_ | refine ay hG hst (c4) ?_ | with_reducible refine ab rfl ?_ | (with_reducible first | apply ag | apply aa | apply ah | apply ac | apply ai | apply ap | apply au | apply ad | apply ak) | refine av rfl rr_ ?_ | (refine ae rfl rr_ dd_ ?_))
      refine ao x_ rfl (.tmp _ _ rfl) (fun _ => ?_)
      exact Fin.flat rfl
    have h3' := of_decide_eq_true h3
    obtain ⟨q, rfl⟩ : ∃ q : Nat, cd = q := ⟨cd.toNat, by omega⟩
    have hql : q < cs.length := by omega
    have hrq := bN (lo := lo) hql
    have hpl := fm (n := bS sel.data.toList) rfl (List.getElem?_eq_getElem hql)
    generalize cs[q] = y at hrq hpl
    obtain ⟨yb, yp, ys, yi⟩ := y
    dsimp only at hrq hpl
    rw [h1] at c1
    rw [h2] at c3
    rw [h3, show (cs.length : Int) - 1 = ((cs.length - 1 : Nat) : Int) by omega] at c4
    cases yb
    case true =>
      rw [hbad fun h => by have := hpl.1 h.1.2; cases this.1]
      repeat' (first | ((with_reducible apply o_y); exact y_; rfl) | (refine aI ?_; intro ss bb) | refine aA ?_ | with_reducible refine aF (by kernel_rfl) (by kernel_rfl) ?_ | with_reducible refine aN ?_ | with_reducible refine aE rfl ?_ | refine aX rfl rfl rfl rr_ ?_ | refine aV rfl rfl rfl rr_ rfl rfl rfl ?_ | ((with_reducible apply d_y); exact y_; rfl) | refine ay hG hst (c1) ?_ | refine ay hG hst (c3) ?_ | refine ay hG hst (c4) ?_ | with_reducible refine ab rfl ?_ | (with_reducible first | apply ag | apply aa | apply ah | apply ac | apply ai | apply ap | apply au | apply ad | apply ak) | refine av rfl rr_ ?_ | (refine ae rfl rr_ dd_ ?_))
      refine ao x_ rfl (.tmp _ _ rfl) (fun _ => ?_)
      exact Fin.flat rfl
    by_cases h5 : yp = bS sel.data.toList
    case neg =>
      rw [hbad fun h => by have := hpl.1 h.1.2; exact h5 this.2]
      repeat' (first | ((with_reducible apply o_y); exact y_; rfl) | (refine aI ?_; intro ss bb) | refine aA ?_ | with_reducible refine aF (by kernel_rfl) (by kernel_rfl) ?_ | with_reducible refine aN ?_ | with_reducible refine aE rfl ?_ | refine aX rfl rfl rfl rr_ ?_ | ((with_reducible apply d_y); exact y_; rfl) | refine ay hG hst (c1) ?_ | refine ay hG hst (c3) ?_ | refine ay hG hst (c4) ?_ | refine ay hG hst (c2) ?_ | with_reducible refine ab rfl ?_ | (with_reducible first | apply ag | apply aa | apply ah | apply ac | apply ai | apply ap | apply au | apply ad | apply ak) | (refine ae rfl rr_ dd_ ?_))
      refine ao x_ rfl (.tmp _ _ rfl) (fun _ => ?_)
      exact Fin.flat rfl
    have h5' : ¬ yp ≠ bS sel.data.toList := fun h => h h5
    repeat' (first | ((with_reducible apply o_y); exact y_; rfl) | (refine aI ?_; intro ss bb) | refine aA ?_ | with_reducible refine aF (by kernel_rfl) (by kernel_rfl) ?_ | with_reducible refine aN ?_ | with_reducible refine aE rfl ?_ | refine aX rfl rfl rfl rr_ ?_ | ((with_reducible apply d_y); exact y_; rfl) | refine ay hG hst (c1) ?_ | refine ay hG hst (c3) ?_ | refine ay hG hst (c4) ?_ | refine ay hG hst (c2) ?_ | with_reducible refine ab rfl ?_ | (with_reducible first | apply ag | apply aa | apply ah | apply ac | apply ai | apply ap) | (refine ae rfl rr_ dd_ ?_) | (refine aj rfl rr_ dd_ ?_))
    apply aK (X := Nat) [0, 3, 4] (fun k => [(5, .int .i64 (k : Int))]) (fun _ => [(ss, bb, .box [.int .i64 ow, .bool ec, .str sel, .int .i64 (q : Int)])]) (fun k => k ≤ i ∧ ∀ y ∈ es.take k, ¬ du ⟨ow, ec, sel, q⟩ y) (fun k => i - k) 0 ⟨Nat.zero_le _, by simp⟩
    exact kp_; (repeat (first | exact bj.envNil | refine bj.envCons we_ ?_))
    · exact .refl _
    rintro k ⟨hki, hkn⟩
    try dsimp only
    by_cases hlk : k < i
    · have hlk2 : k < es.length := by omega
      have hrk := f5 (lo := lo) hlk2
      have hta := bu (p := fun y => ¬ du ⟨ow, ec, sel, q⟩ y) hlk2 hkn
      have hmem : es[k] ∈ es.take i := List.mem_take_iff_getElem.2 ⟨k, by omega, rfl⟩
      generalize es[k] = z at hrk hta hmem
      obtain ⟨zo, zc, zs, zd⟩ := z
      dsimp only at hrk
      by_cases hz : du ⟨ow, ec, sel, q⟩ ⟨zo, zc, zs, zd⟩
      · rw [hbad fun h => h.2 _ hmem hz]
        obtain ⟨z1, z2, z3⟩ := hz
        dsimp only at z1 z2 z3
        have z4 : (zc == ec) = true := by rw [z2]; simp
        repeat' (first | ((with_reducible apply o_y); exact y_; rfl) | with_reducible refine aF (by kernel_rfl) (by kernel_rfl) ?_ | with_reducible refine aN ?_ | with_reducible refine aE rfl ?_ | refine aX rfl rfl rfl rr_ ?_ | (refine cF rfl rfl rfl rr_ dd_ ?_) | ((with_reducible apply d_y); exact y_; rfl) | with_reducible refine ab rfl ?_ | (with_reducible first | apply ag | apply aa | apply ah | apply ac | apply ai | apply ap | apply au | apply ad | apply ak | apply aB) | (refine ae rfl rr_ dd_ ?_) | (refine cf rfl rr_ (fun hc => ?_) (fun hc => ?_)))
        all_goals first
          | (exfalso; simp_all; done)
          | (refine ao x_ rfl (.tmp _ _ rfl) (fun _ => ?_)
             exact Fin.flat rfl)
      · have hnx := hta hz
        unfold du at hz
        dsimp only at hz
        repeat' (first | ((with_reducible apply o_y); exact y_; rfl) | with_reducible refine aF (by kernel_rfl) (by kernel_rfl) ?_ | with_reducible refine aN ?_ | with_reducible refine aE rfl ?_ | refine aX rfl rfl rfl rr_ ?_ | refine aV rfl rfl rfl rr_ rfl rfl rfl ?_ | (refine bJ rfl rfl rfl rr_ (fun hg => ?_) (fun hg => ?_)) | ((with_reducible apply d_y); exact y_; rfl) | with_reducible refine ab rfl ?_ | (with_reducible first | apply ag | apply aa | apply ah | apply ac | apply ai | apply ap | apply au | apply ad | apply ak | apply aB) | refine az rfl rr_ ?_ | (refine ae rfl rr_ dd_ ?_) | (refine cf rfl rr_ (fun hc => ?_) (fun hc => ?_)))
        all_goals first
          | exact aG (k + 1) ⟨by omega, hnx⟩ (by omega) (.of _ nw_ od_ pk_)
          | (exfalso; simp_all; done)
    · obtain rfl : k = i := by omega
      repeat' (first | ((with_reducible apply o_y); exact y_; rfl) | with_reducible refine ab rfl ?_ | (with_reducible first | apply ag | apply aa | apply ah | apply ac | apply aH | apply ar | apply aq | apply aB) | (refine aj rfl rr_ dd_ ?_))
      exact aG (k + 1) ⟨by omega, hks ⟨⟨⟨h1, h2, h3⟩, hpl.2 ⟨rfl, h5⟩⟩, hkn⟩⟩ (by omega) (.of _ nw_ od_ (dV.nil _))
  · rw [iq fun j hj => hk j (by omega)]
    repeat' (first | ((with_reducible apply o_y); exact y_; rfl) | with_reducible refine ab rfl ?_ | (with_reducible first | apply ag | apply aa | apply ah | apply ac | apply aH | apply au | apply ar | apply aq) | (refine aj rfl rr_ dd_ ?_))
    refine ao x_ rfl (.tmp _ _ rfl) (fun _ => ?_)
    exact Fin.flat rfl
end
set_option maxRecDepth 20000
noncomputable def wK (cs : List aT) (K : Nat) : TV := .tup [.sl K 1 (bv ((dy cs).getD [])), .bool (dy cs).isSome]
theorem fl {B L : Nat} {objs : bp} {r : Option (List Int)} (h : r = none) : Fin B objs L .nils (.sl L 1 (bv (r.getD []))) := by subst h; exact .nils 1
theorem dB {B L : Nat} {objs : bp} {r : Option (List Int)} (h : r = none) : Fin B objs L (.bool false) (.bool r.isSome) := by subst h; exact .bool false
theorem qW {B L s b n : Nat} {objs : bp} {r : Option (List Int)} {o : List Int} (h : r = some o) (hn : o.length = n) (hm : (s, b, ca.row 1 (bv o)) ∈ objs) : Fin B objs L (.ms s b 0 n) (.sl L 1 (bv (r.getD []))) := by
  subst h; subst hn
  have hl := aS o
  exact Fin.msFlat hm (by omega) (by rw [List.drop_zero, List.take_of_length_le (by omega)]; rfl) (hU o)
theorem lS {B L : Nat} {objs : bp} {r : Option (List Int)} {o : List Int} (h : r = some o) : Fin B objs L (.bool true) (.bool r.isSome) := by subst h; exact .bool true
section
variable {G : World → Prop}
set_option maxRecDepth 4000 in
set_option maxHeartbeats 4000000 in
theorem kJ (hst : aY G) (f lo : Nat) (ccl cen : TV) (cs : List aT) (mn : Int) (hcs : cs.length ≤ 1048576 ∧ ∀ y ∈ cs, aT.small 1048576 y) :
    Ct Tryz.prog G 108 [.cp f [ccl, .sl lo 4 (cs.map (aT.tw lo)), cen, .int .i64 mn]] (wK cs) := by
  refine aJ Tryz.func108 rfl Tryz.ntmps108 rfl rfl fun w0 _ hG => ?_
  have hl2 := aT.len lo cs
  have hcl := hcs.1
  have h0 : (List.replicate cs.length [TV.int .i64 0]) = bv (fG cs.length 0) := by simp [fG, bv]
  repeat' (first | ((with_reducible apply o_y); exact y_; rfl) | (refine eQ ?_; intro ss bb) | with_reducible refine ab rfl ?_ | (with_reducible first | apply ag | apply aa | apply ah | apply ac | apply ai))
  generalize ss = sd; generalize bb = bd
  apply aK (X := Nat) [0, 4] (fun i => [(5, .int .i64 (i : Int))]) (fun i => [(sd, bd, .row 1 (bv (fG cs.length i)))]) (fun i => i ≤ cs.length) (fun i => cs.length - i) 0 (Nat.zero_le _)
  exact kp_; (repeat (first | exact bj.envNil | refine bj.envCons we_ ?_))
  · rw [← h0]; exact .refl _
  intro i hi
  try dsimp only at hi ⊢
  by_cases hlt : i < cs.length
  · obtain ⟨hrow, hset⟩ := lX hlt
    repeat' (first | ((with_reducible apply o_y); exact y_; rfl) | refine cE ?_ | with_reducible refine ab rfl ?_ | (with_reducible first | apply ag | apply aa | apply ah | apply ac | apply ai | apply ap | apply aB) | (refine ae rfl rr_ dd_ ?_))
    rw [hset]
    refine aG (i + 1) (by omega) (by omega) (.of _ nw_ od_ (.refl _))
  · obtain rfl : i = cs.length := by omega
    clear hlt hi
    have hfull : fG cs.length cs.length = List.replicate cs.length (-1) := by simp [fG]
    rw [hfull]
    have hst0 : ek cs 0 (List.replicate cs.length (-1)) = dy cs := rfl
    have hin0 := fd cs.length
    unfold wK
    generalize dy cs = R at hst0
    generalize List.replicate cs.length (-1 : Int) = o0 at hst0 hin0
    repeat' (first | ((with_reducible apply o_y); exact y_; rfl) | with_reducible refine ab rfl ?_ | (with_reducible first | apply ag | apply aa | apply ah | apply ac | apply ai | apply aH | apply ar | apply aq) | (refine aj rfl rr_ dd_ ?_))
    apply aK (X := Nat × List Int) [0, 4] (fun x => [(6, .int .i64 (x.1 : Int))]) (fun x => [(sd, bd, .row 1 (bv x.2))]) (fun x => x.1 ≤ cs.length ∧ cB cs.length x.2 ∧ ek cs x.1 x.2 = R) (fun x => cs.length - x.1) (0, o0) ⟨Nat.zero_le _, hin0, hst0⟩
    exact kp_; (repeat (first | exact bj.envNil | refine bj.envCons we_ ?_))
    · exact .refl _
    clear hin0 hst0
    rintro ⟨i, o⟩ ⟨hi, hin, hR⟩
    dsimp only at hi hin hR ⊢
    have hol : (bv o).length = cs.length := by rw [aS]; exact hin.1
    by_cases hlt : i < cs.length
    · have hra := bN (lo := lo) hlt
      have hsm := hcs.2 _ (List.getElem_mem hlt)
      rw [jz hlt] at hR
      generalize cs[i] = c at hra hsm hR
      obtain ⟨cb, cp, csl, is⟩ := c
      dsimp only at hra hR
      have hil := aD.len lo is
      have hisl : is.length ≤ 1048576 := hsm.1
      repeat' (first | ((with_reducible apply o_y); exact y_; rfl) | with_reducible refine ab rfl ?_ | (with_reducible first | apply ag | apply aa | apply ah | apply ac | apply ai | apply ap) | (refine ae rfl rr_ dd_ ?_))
      apply aK (X := Nat × List Int) [0, 4, 6] (fun x => [(7, .int .i64 (x.1 : Int))]) (fun x => [(sd, bd, .row 1 (bv x.2))]) (fun x => x.1 ≤ is.length ∧ cB cs.length x.2 ∧ eg cs i (is.drop x.1) x.2 = R) (fun x => is.length - x.1) (0, o) ⟨Nat.zero_le _, hin, hR⟩
      exact kp_; (repeat (first | exact bj.envNil | refine bj.envCons we_ ?_))
      · exact .refl _
      clear hin hR hol
      rintro ⟨k, o⟩ ⟨hk, hin, hR⟩
      dsimp only at hk hin hR ⊢
      have hol : (bv o).length = cs.length := by rw [aS]; exact hin.1
      by_cases hlk : k < is.length
      · have hrk := gc (lo := lo) hlk
        rw [jy hlk] at hR
        generalize is[k] = x at hrk hR
        obtain ⟨op, a, b, t⟩ := x
        unfold ud at hR
        dsimp only at hrk hR
        by_cases h15 : op = 15
        · rw [if_pos h15] at hR
          have h15' : ¬ op ≠ 15 := fun h => h h15
          by_cases hin2 : 0 ≤ a ∧ a ≤ (i : Int) - 1
          · have cin := bz (G := G) a 0 ((i - 1 : Nat) : Int)
            rw [pQ (by omega)] at cin
            obtain ⟨q, rfl⟩ : ∃ q : Nat, a = q := ⟨a.toNat, by omega⟩
            have hql : q < o.length := by rw [hin.1]; omega
            have hrq := dW hql
            have hqc : q < cs.length := by omega
            by_cases hg : 0 ≤ gd o (q : Int)
            · rw [if_neg fun h => h.2 hg] at hR
              repeat' (first | ((with_reducible apply o_y); exact y_; rfl) | (refine aI ?_; intro ss bb) | refine aA ?_ | refine aw hG hst (cin) ?_ | with_reducible refine ab rfl ?_ | (with_reducible first | apply ag | apply aa | apply ah | apply ac | apply ai | apply ap | apply au | apply ad | apply ak) | refine aP rfl rfl rfl rr_ ?_ | (refine ae rfl rr_ dd_ ?_) | (refine aj rfl rr_ dd_ ?_))
              refine dq x_ rfl (.tmp _ _ rfl) (.tmp _ _ rfl) (fun _ => ?_) (fun _ => ?_)
              · exact fl hR.symm
              · exact dB hR.symm
            · rw [if_pos ⟨hin2, hg⟩, Int.toNat_natCast] at hR
              dsimp only at hR
              have hset := mG o q (i : Int)
              have hin3 := (jO (n := cs.length) (i := i) (x := ⟨15, q, b, t⟩) (o := o) (o' := o.set q (i : Int)) hlt (by unfold ud; rw [if_pos rfl, if_pos ⟨hin2, hg⟩, Int.toNat_natCast]) hin).1
              repeat' (first | ((with_reducible apply o_y); exact y_; rfl) | (refine aI ?_; intro ss bb) | refine aA ?_ | refine aw hG hst (cin) ?_ | refine cE ?_ | with_reducible refine ab rfl ?_ | (with_reducible first | apply ag | apply aa | apply ah | apply ac | apply ai | apply ap | apply aB) | refine aP rfl rfl rfl rr_ ?_ | (refine ae rfl rr_ dd_ ?_) | (refine aj rfl rr_ dd_ ?_))
              rw [hset]
              refine aG (k + 1, o.set q (i : Int)) ⟨by dsimp only; omega, hin3, hR⟩ (by dsimp only; omega) (.of _ nw_ od_ pk_)
          · have cin := bz (G := G) a 0 ((i : Int) - 1)
            have cin' := bz (G := G) a 0 ((i - 1 : Nat) : Int)
            rw [vy hin2] at cin
            rw [if_neg fun h => hin2 h.1] at hR
            repeat' (first | ((with_reducible apply o_y); exact y_; rfl) | (refine aI ?_; intro ss bb) | refine aA ?_ | refine aw hG hst (cin) ?_ | with_reducible refine ab rfl ?_ | (with_reducible first | apply ag | apply aa | apply ah | apply ac | apply ai | apply ap | apply au | apply ad | apply ak) | refine aO rfl rfl rfl rr_ rfl rfl rfl ?_ | refine av rfl rr_ ?_ | (refine ae rfl rr_ dd_ ?_) | (refine aj rfl rr_ dd_ ?_))
            refine dq x_ rfl (.tmp _ _ rfl) (.tmp _ _ rfl) (fun _ => ?_) (fun _ => ?_)
            · exact fl hR.symm
            · exact dB hR.symm
        · rw [if_neg h15] at hR
          dsimp only at hR
          repeat' (first | ((with_reducible apply o_y); exact y_; rfl) | (refine aI ?_; intro ss bb) | refine aA ?_ | with_reducible refine ab rfl ?_ | (with_reducible first | apply ag | apply aa | apply ah | apply ac | apply ai | apply aH | apply ap | apply ar | apply aq) | (refine ae rfl rr_ dd_ ?_))
          refine aG (k + 1, o) ⟨by dsimp only; omega, hin, hR⟩ (by dsimp only; omega) (.of _ nw_ od_ pk_)
      · rw [jY hlk] at hR
        repeat' (first | ((with_reducible apply o_y); exact y_; rfl) | with_reducible refine ab rfl ?_ | (with_reducible first | apply ag | apply aa | apply ah | apply ac | apply aH | apply ar | apply aq | apply aB) | (refine aj rfl rr_ dd_ ?_))
        refine aG (i + 1, o) ⟨by dsimp only; omega, hin, hR⟩ (by dsimp only; omega) (.of _ nw_ od_ pk_)
    · rw [kd hlt] at hR
      repeat' (first | ((with_reducible apply o_y); exact y_; rfl) | with_reducible refine ab rfl ?_ | (with_reducible first | apply ag | apply aa | apply ah | apply ac | apply ai | apply aH | apply ar | apply aq) | (refine aj rfl rr_ dd_ ?_))
      apply aK (X := Nat) [0, 4] (fun j => [(9, .int .i64 (j : Int))]) (fun _ => [(sd, bd, .row 1 (bv o))]) (fun j => j ≤ cs.length ∧ ∀ q, q < j → ∀ h : q < cs.length, cs[q].block = decide (0 ≤ gd o (q : Int))) (fun j => cs.length - j) 0 ⟨Nat.zero_le _, by omega⟩
      exact kp_; (repeat (first | exact bj.envNil | refine bj.envCons we_ ?_))
      · exact .refl _
      rintro j ⟨hj, hja⟩
      try dsimp only
      by_cases hlj : j < cs.length
      · have hra := bN (lo := lo) hlj
        have hrj := dW (o := o) (j := j) (by rw [hin.1]; exact hlj)
        have hbad := lL (o := o) hlj
        have hnx : cs[j].block = decide (0 ≤ gd o (j : Int)) → ∀ q, q < j + 1 → ∀ h : q < cs.length, cs[q].block = decide (0 ≤ gd o (q : Int)) := fun ho => bT hja fun _ => ho
        generalize cs[j] = c at hra hbad hnx
        obtain ⟨cb, cp, csl, is⟩ := c
        dsimp only at hra hbad hnx
        generalize gd o (j : Int) = v at hrj hbad hnx
        by_cases hb : cb = decide (0 ≤ v)
        · repeat' (first | ((with_reducible apply o_y); exact y_; rfl) | with_reducible refine aF (by kernel_rfl) (by kernel_rfl) ?_ | with_reducible refine aN ?_ | with_reducible refine aE rfl ?_ | ((with_reducible apply d_y); exact y_; rfl) | with_reducible refine ab rfl ?_ | (with_reducible first | apply ag | apply aa | apply ah | apply ac | apply ai | apply ap | apply au | apply ad | apply ak | apply aB) | (refine ae rfl rr_ dd_ ?_) | (refine cf rfl rr_ (fun hc => ?_) (fun hc => ?_)))
          all_goals first
            | exact aG (j + 1) ⟨by omega, hnx hb⟩ (by omega) (.of _ nw_ od_ pk_)
            | (exfalso; simp_all; done)
        · rw [hbad hb] at hR
          repeat' (first | ((with_reducible apply o_y); exact y_; rfl) | with_reducible refine aF (by kernel_rfl) (by kernel_rfl) ?_ | with_reducible refine aN ?_ | with_reducible refine aE rfl ?_ | ((with_reducible apply d_y); exact y_; rfl) | with_reducible refine ab rfl ?_ | (with_reducible first | apply ag | apply aa | apply ah | apply ac | apply ai | apply ap | apply au | apply ad | apply ak | apply aB) | (refine ae rfl rr_ dd_ ?_) | (refine cf rfl rr_ (fun hc => ?_) (fun hc => ?_)))
          all_goals first
            | (exfalso; simp_all; done)
            | (refine dq x_ rfl (.tmp _ _ rfl) (.tmp _ _ rfl) (fun _ => ?_) (fun _ => ?_)
               · exact fl hR.symm
               · exact dB hR.symm)
      · rw [ke fun q hq => hja q (by omega)] at hR
        repeat' (first | ((with_reducible apply o_y); exact y_; rfl) | with_reducible refine ab rfl ?_ | (with_reducible first | apply ag | apply aa | apply ah | apply ac | apply aH | apply au | apply ar | apply aq) | (refine aj rfl rr_ dd_ ?_))
        refine dq x_ rfl (.tmp _ _ rfl) (.tmp _ _ rfl) (fun _ => ?_) (fun _ => ?_)
        · exact qW hR.symm hin.1 List.mem_cons_self
        · exact lS hR.symm
end
set_option maxRecDepth 20000
set_option maxRecDepth 8000 in
set_option maxHeartbeats 8000000 in
theorem lj (f lo : Nat) (cl : List am) (es : List aW) (cs : List aT) (mn : Int) (hcl : cl.length ≤ 1048576 ∧ ∀ y ∈ cl, am.small 1048576 y) (hcs : cs.length ≤ 1048576 ∧ ∀ y ∈ cs, aT.small 1048576 y) (hes : es.length ≤ 1048576 ∧ ∀ y ∈ es, aW.small 1048576 y) :
    Ct Tryz.prog GL 32 [.cp f [.sl lo 3 (cl.map (am.tw lo)), .sl lo 4 (cs.map (aT.tw lo)), .sl lo 4 (es.map (aW.tw lo)), .int .i64 mn]] (fun _ => .bool (cI ⟨cl, cs, es, mn⟩)) := by
  refine aJ Tryz.func32 rfl Tryz.ntmps32 rfl rfl fun w0 _ hG => ?_
  have hst := cZ
  have hvF := lW (x := ⟨cl, cs, es, mn⟩)
  have hvT := lO (x := ⟨cl, cs, es, mn⟩)
  unfold eo tN pW at hvF hvT
  dsimp only at hvF hvT
  generalize cI ⟨cl, cs, es, mn⟩ = V at hvF hvT ⊢
  have hl1 := am.len lo cl
  have hl2 := aT.len lo cs
  have hl3 := aW.len lo es
  have hcsl := hcs.1
  have c1 := gB hst lo cl hcl
  have c3 := bz (G := GL) mn 0 ((cs.length : Int) - 1)
  have c5 := mK hst y8 yU f lo cl cs es mn hcl.1 hcs.1 hes
  have c6 := kJ hst f lo (.sl lo 3 (cl.map (am.tw lo))) (.sl lo 4 (es.map (aW.tw lo))) cs mn hcs
  by_cases h1 : bO cl = true
  case neg =>
    rw [hvF fun h => h1 h.1]
    rw [Bool.eq_false_iff.2 h1] at c1
    repeat' (first | ((with_reducible apply o_y); exact y_; rfl) | with_reducible refine aF (by kernel_rfl) (by kernel_rfl) ?_ | with_reducible refine aN ?_ | with_reducible refine aE rfl ?_ | refine aV rfl rfl rfl rr_ rfl rfl rfl ?_ | ((with_reducible apply d_y); exact y_; rfl) | refine ay hG hst (c1) ?_ | with_reducible refine ab rfl ?_ | (with_reducible first | apply ag | apply aa | apply ah | apply ac | apply au | apply ad) | refine av rfl rr_ ?_)
    refine ao x_ rfl (.tmp _ _ rfl) (fun _ => ?_)
    exact Fin.flat rfl
  rw [h1] at c1
  by_cases h2 : cs.length ≤ 200
  case neg =>
    rw [hvF fun h => h2 h.2.1]
    repeat' (first | ((with_reducible apply o_y); exact y_; rfl) | with_reducible refine aF (by kernel_rfl) (by kernel_rfl) ?_ | with_reducible refine aN ?_ | with_reducible refine aE rfl ?_ | refine aX rfl rfl rfl rr_ ?_ | refine aV rfl rfl rfl rr_ rfl rfl rfl ?_ | (refine cF rfl rfl rfl rr_ dd_ ?_) | ((with_reducible apply d_y); exact y_; rfl) | refine ay hG hst (c1) ?_ | with_reducible refine ab rfl ?_ | (with_reducible first | apply ag | apply aa | apply ah | apply ac | apply au | apply ad) | refine av rfl rr_ ?_)
    refine ao x_ rfl (.tmp _ _ rfl) (fun _ => ?_)
    exact Fin.flat rfl
  by_cases h3 : inR mn 0 ((cs.length : Int) - 1) = true
  case neg =>
    rw [hvF fun h => h3 h.2.2.1.1]
    rw [Bool.eq_false_iff.2 h3] at c3
    repeat' (first | ((with_reducible apply o_y); exact y_; rfl) | with_reducible refine aF (by kernel_rfl) (by kernel_rfl) ?_ | with_reducible refine aN ?_ | with_reducible refine aE rfl ?_ | refine aX rfl rfl rfl rr_ ?_ | refine aV rfl rfl rfl rr_ rfl rfl rfl ?_ | (refine bW rfl rfl rfl rr_ dd_ ?_) | ((with_reducible apply d_y); exact y_; rfl) | refine ay hG hst (c1) ?_ | refine ay hG hst (c3) ?_ | with_reducible refine ab rfl ?_ | (with_reducible first | apply ag | apply aa | apply ah | apply ac | apply au | apply ad) | refine av rfl rr_ ?_)
    refine ao x_ rfl (.tmp _ _ rfl) (fun _ => ?_)
    exact Fin.flat rfl
  have h3' := of_decide_eq_true h3
  obtain ⟨q, rfl⟩ : ∃ q : Nat, mn = q := ⟨mn.toNat, by omega⟩
  have hql : q < cs.length := by omega
  have hrq := bN (lo := lo) hql
  have hpl := fm (n := 0) rfl (List.getElem?_eq_getElem hql)
  generalize cs[q] = y at hrq hpl
  obtain ⟨yb, yp, ys, yi⟩ := y
  dsimp only at hrq hpl
  rw [h3, show (cs.length : Int) - 1 = ((cs.length - 1 : Nat) : Int) by omega] at c3
  cases yb
  case true =>
    rw [hvF fun h => by have := hpl.1 h.2.2.1.2; cases this.1]
    repeat' (first | ((with_reducible apply o_y); exact y_; rfl) | with_reducible refine aF (by kernel_rfl) (by kernel_rfl) ?_ | with_reducible refine aN ?_ | with_reducible refine aE rfl ?_ | refine aX rfl rfl rfl rr_ ?_ | refine aV rfl rfl rfl rr_ rfl rfl rfl ?_ | (refine bW rfl rfl rfl rr_ dd_ ?_) | ((with_reducible apply d_y); exact y_; rfl) | refine ay hG hst (c1) ?_ | refine ay hG hst (c3) ?_ | with_reducible refine ab rfl ?_ | (with_reducible first | apply ag | apply aa | apply ah | apply ac | apply au | apply ad) | refine av rfl rr_ ?_)
    refine ao x_ rfl (.tmp _ _ rfl) (fun _ => ?_)
    exact Fin.flat rfl
  by_cases h4 : yp = 0
  case neg =>
    rw [hvF fun h => by have := hpl.1 h.2.2.1.2; exact h4 this.2]
    repeat' (first | ((with_reducible apply o_y); exact y_; rfl) | with_reducible refine aF (by kernel_rfl) (by kernel_rfl) ?_ | with_reducible refine aN ?_ | with_reducible refine aE rfl ?_ | refine aX rfl rfl rfl rr_ ?_ | refine aV rfl rfl rfl rr_ rfl rfl rfl ?_ | (refine cF rfl rfl rfl rr_ dd_ ?_) | (refine bW rfl rfl rfl rr_ dd_ ?_) | ((with_reducible apply d_y); exact y_; rfl) | refine ay hG hst (c1) ?_ | refine ay hG hst (c3) ?_ | with_reducible refine ab rfl ?_ | (with_reducible first | apply ag | apply aa | apply ah | apply ac | apply au | apply ad) | refine av rfl rr_ ?_)
    refine ao x_ rfl (.tmp _ _ rfl) (fun _ => ?_)
    exact Fin.flat rfl
  have h4' : ¬ yp ≠ 0 := fun h => h h4
  by_cases h5 : d8 cl.length cs es = true
  case neg =>
    rw [hvF fun h => h5 h.2.2.2.1]
    rw [Bool.eq_false_iff.2 h5] at c5
    repeat' (first | ((with_reducible apply o_y); exact y_; rfl) | with_reducible refine aF (by kernel_rfl) (by kernel_rfl) ?_ | with_reducible refine aN ?_ | with_reducible refine aE rfl ?_ | refine aX rfl rfl rfl rr_ ?_ | (refine bW rfl rfl rfl rr_ dd_ ?_) | ((with_reducible apply d_y); exact y_; rfl) | refine ay hG hst (c1) ?_ | refine ay hG hst (c3) ?_ | refine ay hG hst (c5) ?_ | with_reducible refine ab rfl ?_ | (with_reducible first | apply ag | apply aa | apply ah | apply ac | apply au | apply ad) | refine av rfl rr_ ?_)
    refine ao x_ rfl (.tmp _ _ rfl) (fun _ => ?_)
    exact Fin.flat rfl
  rw [h5] at c5
  have hhead := hpl.2 ⟨rfl, h4⟩
  unfold wK at c6
  cases hR : dy cs
  case none =>
    rw [hR] at c6
    have hf : V = false := hvF fun h => by
      obtain ⟨o, ho, _⟩ := h.2.2.2.2
      rw [hR] at ho; cases ho
    rw [hf]
    clear hvF hvT
    replace c6 : Ct Tryz.prog GL 108 [.cp f [.sl lo 3 (cl.map (am.tw lo)), .sl lo 4 (cs.map (aT.tw lo)), .sl lo 4 (es.map (aW.tw lo)), .int .i64 (q : Int)]] (fun K => .tup [.sl K 1 [], .bool false]) := c6
    repeat' (first | ((with_reducible apply o_y); exact y_; rfl) | with_reducible refine aF (by kernel_rfl) (by kernel_rfl) ?_ | with_reducible refine aN ?_ | with_reducible refine aE rfl ?_ | refine aX rfl rfl rfl rr_ ?_ | (refine bW rfl rfl rfl rr_ dd_ ?_) | ((with_reducible apply d_y); exact y_; rfl) | refine ay hG hst (c1) ?_ | refine ay hG hst (c3) ?_ | refine ay hG hst (c5) ?_ | refine aw hG hst (c6) ?_ | with_reducible refine ab rfl ?_ | (with_reducible first | apply ag | apply aa | apply ah | apply ac | apply ai | apply ap) | refine az rfl rr_ ?_)
    apply aK (X := Nat) [0, 3, 4] (fun i => [(5, .int .i64 (i : Int))]) (fun _ => []) (fun i => i = 0) (fun i => 1 - i) 0 rfl
    exact kp_; (repeat (first | exact bj.envNil | refine bj.envCons we_ ?_))
    · exact .refl _
    rintro i rfl
    try dsimp only
    have hpos : ((0 : Nat) : Int) < (cs.length : Int) := by omega
    repeat' (first | ((with_reducible apply o_y); exact y_; rfl) | with_reducible refine ab rfl ?_ | (with_reducible first | apply ag | apply aa | apply ah | apply ac | apply aH | apply au | apply ar | apply aq) | refine aP rfl rfl rfl rr_ ?_ | (refine bQ rfl rfl rfl rr_ dd_ ?_) | refine az rfl rr_ ?_)
    refine ao x_ rfl (.tmp _ _ rfl) (fun _ => ?_)
    exact Fin.flat rfl
  case some o =>
    rw [hR] at c6
    replace c6 : Ct Tryz.prog GL 108 [.cp f [.sl lo 3 (cl.map (am.tw lo)), .sl lo 4 (cs.map (aT.tw lo)), .sl lo 4 (es.map (aW.tw lo)), .int .i64 (q : Int)]] (fun K => .tup [.sl K 1 (bv o), .bool true]) := c6
    obtain ⟨hinv, hfit⟩ := gI hR
    have hblk := fun i c hc => mX hR (i := i) (c := c) hc
    have hvF2 : ¬ mY cs cl.length o → V = false := fun h => hvF fun k => by
      obtain ⟨o', ho', hc'⟩ := k.2.2.2.2
      rw [hR] at ho'; cases ho'
      exact h hc'
    have hvT2 : mY cs cl.length o → V = true := fun h => hvT ⟨h1, h2, ⟨h3, hhead⟩, h5, o, hR, h⟩
    clear hvF hvT hR
    repeat' (first | ((with_reducible apply o_y); exact y_; rfl) | with_reducible refine aF (by kernel_rfl) (by kernel_rfl) ?_ | with_reducible refine aN ?_ | with_reducible refine aE rfl ?_ | refine aX rfl rfl rfl rr_ ?_ | (refine bW rfl rfl rfl rr_ dd_ ?_) | ((with_reducible apply d_y); exact y_; rfl) | refine ay hG hst (c1) ?_ | refine ay hG hst (c3) ?_ | refine ay hG hst (c5) ?_ | refine aw hG hst (c6) ?_ | with_reducible refine ab rfl ?_ | (with_reducible first | apply ag | apply aa | apply ah | apply ac | apply ai | apply ap) | refine az rfl rr_ ?_)
    apply aK (X := Nat × Bool) [0, 3] (fun x => [(5, .int .i64 (x.1 : Int)), (4, .bool x.2)]) (fun _ => []) (fun x => x.1 ≤ cs.length ∧ (x.2 = true → ∀ j, j < x.1 → ∀ h : j < cs.length, et cs cl.length o j cs[j]) ∧ (x.2 = false → V = false)) (fun x => cs.length - x.1) (0, true) ⟨Nat.zero_le _, fun _ => by omega, fun h => by cases h⟩
    exact kp_; (repeat (first | exact bj.envNil | refine bj.envCons we_ ?_))
    · exact .refl _
    rintro ⟨i, ok⟩ ⟨hi, ha, hb⟩
    dsimp only at hi ha hb ⊢
    by_cases hlt : i < cs.length
    · cases ok
      case false =>
        rw [hb rfl]
        repeat' (first | ((with_reducible apply o_y); exact y_; rfl) | with_reducible refine ab rfl ?_ | (with_reducible first | apply ag | apply aa | apply ah | apply ac | apply aH | apply au | apply ar | apply aq) | refine aP rfl rfl rfl rr_ ?_ | (refine bQ rfl rfl rfl rr_ dd_ ?_) | refine az rfl rr_ ?_)
        refine ao x_ rfl (.tmp _ _ rfl) (fun _ => ?_)
        exact Fin.flat rfl
      have hg : cs[i]? = some cs[i] := List.getElem?_eq_getElem hlt
      have hct := rK f lo w0.heap.size cl (.sl lo 4 (es.map (aW.tw lo))) cs q hcl.1 hcs o hinv i cs[i] hg (hblk i _ hg)
      have hT := ub (cs := cs) (nc := cl.length) (o := o) (k := i) (x := cs[i])
      have hF := uZ (cs := cs) (nc := cl.length) (o := o) (k := i) (x := cs[i])
      have hnx : et cs cl.length o i cs[i] → ∀ j, j < i + 1 → ∀ h : j < cs.length, et cs cl.length o j cs[j] := fun ho => bT (ha rfl) fun _ => ho
      by_cases hco : et cs cl.length o i cs[i]
      · rw [hT hco] at hct
        repeat' (first | ((with_reducible apply o_y); exact y_; rfl) | refine aw hG hst (hct) ?_ | with_reducible refine ab rfl ?_ | (with_reducible first | apply ag | apply aa | apply ah | apply ac | apply ai | apply ap | apply aB) | refine aP rfl rfl rfl rr_ ?_ | (refine bQ rfl rfl rfl rr_ dd_ ?_) | refine av rfl rr_ ?_)
        exact aG (i + 1, true) ⟨by dsimp only; omega, fun _ => hnx hco, fun h => (by cases h)⟩ (by dsimp only; omega) (.of _ nw_ od_ pk_)
      · rw [hF hco] at hct
        repeat' (first | ((with_reducible apply o_y); exact y_; rfl) | refine aw hG hst (hct) ?_ | with_reducible refine ab rfl ?_ | (with_reducible first | apply ag | apply aa | apply ah | apply ac | apply ai | apply ap | apply aB) | refine aP rfl rfl rfl rr_ ?_ | (refine bQ rfl rfl rfl rr_ dd_ ?_) | refine av rfl rr_ ?_)
        exact aG (i + 1, false) ⟨by dsimp only; omega, fun h => (by cases h), fun _ => hvF2 fun h => hco (h i hlt)⟩ (by dsimp only; omega) (.of _ nw_ od_ pk_)
    · have hVe : V = ok := by
        cases ok
        · exact hb rfl
        · exact hvT2 fun j hj => ha rfl j (by omega) hj
      rw [hVe]
      repeat' (first | ((with_reducible apply o_y); exact y_; rfl) | with_reducible refine ab rfl ?_ | (with_reducible first | apply ag | apply aa | apply ah | apply ac | apply aH | apply au | apply ar | apply aq) | refine aO rfl rfl rfl rr_ rfl rfl rfl ?_ | (refine bC rfl rfl rfl rr_ dd_ ?_) | refine az rfl rr_ ?_)
      refine ao x_ rfl (.tmp _ _ rfl) (fun _ => ?_)
      exact Fin.flat rfl
set_option maxRecDepth 20000
inductive IsB (cl : List am) (a : Int) : Int → Prop
  | here : IsB cl a a
  | up (k : Nat) (h : k < cl.length) (hne : (k : Int) ≠ a) (hr : IsB cl a cl[k].parent) : IsB cl a k
theorem qO {cl : List am} {a : Int} {k : Nat} (h : k < cl.length) (hne : (k : Int) ≠ a) : IsB cl a k ↔ IsB cl a cl[k].parent := by
  constructor
  · intro hb
    generalize hk : (k : Int) = q at hb
    cases hb with
    | here => exact absurd hk hne
    | up k' h' hne' hr =>
      obtain rfl : k = k' := by omega
      exact hr
  · exact .up k h hne
theorem uz {cl : List am} {a k : Int} (h : k < 0) : IsB cl a k ↔ k = a := by
  constructor
  · intro hb
    cases hb with
    | here => rfl
    | up k' h' hne' hr => omega
  · rintro rfl; exact .here
theorem xQ {cl : List am} {a : Int} {k : Int} (h : (cl.length : Int) ≤ k) : IsB cl a k ↔ k = a := by
  constructor
  · intro hb
    cases hb with
    | here => rfl
    | up k' h' hne' hr => omega
  · rintro rfl; exact .here
open Classical in
noncomputable def pF (cl : List am) (a k : Int) : Bool := decide (IsB cl a k)
def eV (cl : List am) : Prop := ∀ (i : Nat) (h : i < cl.length), -1 ≤ cl[i].parent ∧ cl[i].parent < i
theorem p7 : ∀ (i : Nat) (_h : i < 16), ∀ b, bH[i]? = some b → -1 ≤ b.parent ∧ b.parent < i := by
  intro i _h b hb
  match i, _h with
  | 0, _ => cases hb; decide
  | 1, _ => cases hb; decide
  | 2, _ => cases hb; decide
  | 3, _ => cases hb; decide
  | 4, _ => cases hb; decide
  | 5, _ => cases hb; decide
  | 6, _ => cases hb; decide
  | 7, _ => cases hb; decide
  | 8, _ => cases hb; decide
  | 9, _ => cases hb; decide
  | 10, _ => cases hb; decide
  | 11, _ => cases hb; decide
  | 12, _ => cases hb; decide
  | 13, _ => cases hb; decide
  | 14, _ => cases hb; decide
  | 15, _ => cases hb; decide
  | n + 16, _h => omega
open Classical in
theorem iC {cl : List am} (h : bO cl = true) : lu cl := of_decide_eq_true h
theorem ng {cl : List am} (h : bO cl = true) : eV cl := fun i hi => by
  have h1 := (iC h).2 i hi
  unfold dp at h1
  split at h1
  · rename_i h16
    obtain ⟨b, hb, _, hp, _⟩ := h1
    rw [hp]
    exact p7 i h16 b hb
  · have := h1.1.2.1
    omega
section
variable {G : World → Prop}
theorem fL {lo : Nat} {l : List am} {i : Nat} (h : i < l.length) : (l.map (am.tw lo))[i]? = some [.str l[i].name, .int .i64 l[i].parent, .sl lo 1 (cL l[i].fields)] := bg h
open Classical in
theorem lP (lo : Nat) (cl : List am) (hcl : eV cl) (k0 a : Int) (hk0 : -1 ≤ k0 ∧ k0 < cl.length) : Ct Tryz.prog G 213 [.sl lo 3 (cl.map (am.tw lo)), .int .i64 k0, .int .i64 a] (fun _ => .bool (pF cl a k0)) := by
  refine aJ Tryz.func213 rfl Tryz.ntmps213 rfl rfl fun w0 _ hG => ?_
  have hlen := am.len lo cl
  repeat' (first | ((with_reducible apply o_y); exact y_; rfl) | with_reducible refine ab rfl ?_ | (with_reducible first | apply ag | apply aa | apply ah | apply ac | apply ai))
  apply aK (X := Int) [0, 2] (fun k => [(1, .int .i64 k)]) (fun _ => []) (fun k => (-1 ≤ k ∧ k < cl.length) ∧ (IsB cl a k0 ↔ IsB cl a k)) (fun k => (k + 1).toNat) k0 ⟨hk0, Iff.rfl⟩
  exact kp_; (repeat (first | exact bj.envNil | refine bj.envCons we_ ?_))
  · exact .refl _
  rintro k ⟨hk, hiff⟩
  try dsimp only
  by_cases hneg : k < 0
  · have e : pF cl a k0 = decide (k = a) := decide_eq_decide.2 (hiff.trans (uz hneg))
    rw [e]
    repeat' (first | ((with_reducible apply o_y); exact y_; rfl) | with_reducible refine ab rfl ?_ | (with_reducible first | apply ag | apply aa | apply ah | apply ac | apply aH | apply au | apply ar | apply aq) | refine aO rfl rfl rfl rr_ rfl rfl rfl ?_ | (refine bC rfl rfl rfl rr_ dd_ ?_) | refine az rfl rr_ ?_)
    refine ao x_ rfl (.tmp _ _ rfl) (fun _ => ?_)
    exact aZ rfl
  obtain ⟨n, rfl⟩ : ∃ n : Nat, k = n := ⟨k.toNat, by omega⟩
  have hn : n < cl.length := by omega
  by_cases hka : (n : Int) = a
  · have e : pF cl a k0 = true := decide_eq_true (hiff.2 (hka ▸ .here))
    have hne : ¬ ((n : Int) ≠ a) := fun h => h hka
    rw [e]
    repeat' (first | ((with_reducible apply o_y); exact y_; rfl) | with_reducible refine ab rfl ?_ | (with_reducible first | apply ag | apply aa | apply ah | apply ac | apply aH | apply au | apply ar | apply aq) | refine aP rfl rfl rfl rr_ ?_ | (refine bQ rfl rfl rfl rr_ dd_ ?_) | (refine aj rfl rr_ dd_ ?_))
    refine ao x_ rfl (.tmp _ _ rfl) (fun _ => ?_)
    exact aZ (decide_eq_true hka)
  · have hrow := fL (lo := lo) hn
    have hp := hcl n hn
    have hst2 := hiff.trans (qO hn hka)
    have hne : (n : Int) ≠ a := hka
    generalize cl[n] = c at hrow hp hst2
    repeat' (first | ((with_reducible apply o_y); exact y_; rfl) | with_reducible refine ab rfl ?_ | (with_reducible first | apply ag | apply aa | apply ah | apply ac | apply ai | apply ap | apply aB) | refine aP rfl rfl rfl rr_ ?_ | (refine bQ rfl rfl rfl rr_ dd_ ?_) | (refine ae rfl rr_ dd_ ?_))
    exact aG c.parent ⟨by omega, hst2⟩ (by omega) (.of _ nw_ od_ pk_)
open Classical in
theorem rC (lo : Nat) (cl : List am) (hcl : eV cl) (k0 a : Int) (ha : 0 ≤ a ∧ a < cl.length) : Ct Tryz.prog G 239 [.sl lo 3 (cl.map (am.tw lo)), .int .i64 k0, .int .i64 a] (fun _ => .bool (pF cl a k0)) := by
  refine aJ Tryz.func239 rfl Tryz.ntmps239 rfl rfl fun w0 _ hG => ?_
  have hlen := am.len lo cl
  repeat' (first | ((with_reducible apply o_y); exact y_; rfl) | with_reducible refine ab rfl ?_ | (with_reducible first | apply ag | apply aa | apply ah | apply ac | apply ai))
  apply aK (X := Int) [0, 2] (fun k => [(1, .int .i64 k)]) (fun _ => []) (fun k => IsB cl a k0 ↔ IsB cl a k) (fun k => (k + 1).toNat) k0 Iff.rfl
  exact kp_; (repeat (first | exact bj.envNil | refine bj.envCons we_ ?_))
  · exact .refl _
  rintro k hiff
  try dsimp only
  by_cases hneg : k < 0
  · have e : pF cl a k0 = false := decide_eq_false fun h => by have := (uz hneg).1 (hiff.1 h); omega
    rw [e]
    repeat' (first | ((with_reducible apply o_y); exact y_; rfl) | with_reducible refine ab rfl ?_ | (with_reducible first | apply ag | apply aa | apply ah | apply ac | apply aH | apply au | apply ar | apply aq) | refine aO rfl rfl rfl rr_ rfl rfl rfl ?_ | (refine bC rfl rfl rfl rr_ dd_ ?_) | refine az rfl rr_ ?_)
    refine ao x_ rfl (.tmp _ _ rfl) (fun _ => ?_)
    exact Fin.flat rfl
  by_cases hbig : (cl.length : Int) ≤ k
  · have e : pF cl a k0 = false := decide_eq_false fun h => by have := (xQ hbig).1 (hiff.1 h); omega
    rw [e]
    repeat' (first | ((with_reducible apply o_y); exact y_; rfl) | with_reducible refine ab rfl ?_ | (with_reducible first | apply ag | apply aa | apply ah | apply ac | apply aH | apply au | apply ar | apply aq) | refine aP rfl rfl rfl rr_ ?_ | (refine bQ rfl rfl rfl rr_ dd_ ?_) | (refine aj rfl rr_ dd_ ?_))
    refine ao x_ rfl (.tmp _ _ rfl) (fun _ => ?_)
    exact Fin.flat rfl
  obtain ⟨n, rfl⟩ : ∃ n : Nat, k = n := ⟨k.toNat, by omega⟩
  have hn : n < cl.length := by omega
  by_cases hka : (n : Int) = a
  · have e : pF cl a k0 = true := decide_eq_true (hiff.2 (hka ▸ .here))
    rw [e]
    repeat' (first | ((with_reducible apply o_y); exact y_; rfl) | with_reducible refine ab rfl ?_ | (with_reducible first | apply ag | apply aa | apply ah | apply ac | apply ai | apply ap | apply au | apply ad | apply ak) | refine aP rfl rfl rfl rr_ ?_ | (refine bQ rfl rfl rfl rr_ dd_ ?_) | (refine ae rfl rr_ dd_ ?_))
    refine ao x_ rfl (.tmp _ _ rfl) (fun _ => ?_)
    exact Fin.flat rfl
  · have hrow := fL (lo := lo) hn
    have hp := hcl n hn
    have hst2 := hiff.trans (qO hn hka)
    generalize cl[n] = c at hrow hp hst2
    repeat' (first | ((with_reducible apply o_y); exact y_; rfl) | with_reducible refine ab rfl ?_ | (with_reducible first | apply ag | apply aa | apply ah | apply ac | apply ai | apply ap | apply aB) | refine aP rfl rfl rfl rr_ ?_ | (refine bQ rfl rfl rfl rr_ dd_ ?_) | (refine ae rfl rr_ dd_ ?_) | (refine aj rfl rr_ dd_ ?_))
    exact aG c.parent hst2 (by omega) (.of _ nw_ od_ pk_)
end
def ch (st : br) (nb : Int) (x : aC) : Bool := gS x.kind x.number x.text && (if x.kind = 5 then decide (x.number < st.classes.length) else if x.kind = 6 then decide (x.number < st.objects.length) else if x.kind = 7 then decide (x.number < nb) else true)
theorem kj (lo : Nat) (st : br) (nb : Int) (x : aC) (ht : x.text.size ≤ 1048576) : Ct Tryz.prog GL 97 [.agg (st.tw lo), .agg [.int .i64 x.kind, .int .i64 x.number, .str x.text], .int .i64 nb] (fun _ => .bool (ch st nb x)) := by
  refine aJ Tryz.func97 rfl Tryz.ntmps97 rfl rfl fun w0 _ hG => ?_
  have hst := cZ
  have hv := kY x.kind x.number x.text ht
  have h1 := am.len lo st.classes
  have h2 := aR.len lo st.objects
  unfold ch
  unfold br.tw
  generalize gS x.kind x.number x.text = b at hv ⊢
  cases b with
  | false =>
    rw [Bool.false_and]
    repeat' (first | ((with_reducible apply o_y); exact y_; rfl) | refine bf ?_ | refine aw hG hst (hv) ?_ | with_reducible refine ab rfl ?_ | (with_reducible first | apply ag | apply aa | apply ah | apply ac | apply au | apply ad) | refine av rfl rr_ ?_)
    refine ao x_ rfl (.tmp _ _ rfl) (fun _ => ?_)
    exact Fin.flat rfl
  | true =>
    rw [Bool.true_and]
    repeat' (first | ((with_reducible apply o_y); exact y_; rfl) | refine bf ?_ | refine aw hG hst (hv) ?_ | with_reducible refine ab rfl ?_ | (with_reducible first | apply ag | apply aa | apply ah | apply ac | apply ai | apply ap | apply au | apply ad | apply ak | apply aB) | refine az rfl rr_ ?_ | (refine bD rfl rr_ (fun hc => ?_) (fun hc => ?_)))
    all_goals
      refine ao x_ rfl (.tmp _ _ rfl) (fun _ => ?_)
      exact aZ (by simp [*])
theorem ep (f lo : Nat) (st : br) (nb : Int) (x : aC) (ht : x.text.size ≤ 1048576) : Ct Tryz.prog GL 158 [.cp f (st.tw lo), .agg [.int .i64 x.kind, .int .i64 x.number, .str x.text], .int .i64 nb] (fun _ => .bool (ch st nb x)) := by
  refine aJ Tryz.func158 rfl Tryz.ntmps158 rfl rfl fun w0 _ hG => ?_
  have hst := cZ
  have hv := eK x.kind x.number x.text ht
  have h1 := am.len lo st.classes
  have h2 := aR.len lo st.objects
  unfold ch
  unfold br.tw
  generalize gS x.kind x.number x.text = b at hv ⊢
  cases b with
  | false =>
    rw [Bool.false_and]
    repeat' (first | ((with_reducible apply o_y); exact y_; rfl) | refine bf ?_ | refine aw hG hst (hv) ?_ | with_reducible refine ab rfl ?_ | (with_reducible first | apply ag | apply aa | apply ah | apply ac | apply au | apply ad) | refine av rfl rr_ ?_)
    refine ao x_ rfl (.tmp _ _ rfl) (fun _ => ?_)
    exact Fin.flat rfl
  | true =>
    rw [Bool.true_and]
    repeat' (first | ((with_reducible apply o_y); exact y_; rfl) | refine bf ?_ | with_reducible refine aF (by kernel_rfl) (by kernel_rfl) ?_ | with_reducible refine aN ?_ | with_reducible refine aE rfl ?_ | ((with_reducible apply d_y); exact y_; rfl) | refine aw hG hst (hv) ?_ | with_reducible refine ab rfl ?_ | (with_reducible first | apply ag | apply aa | apply ah | apply ac | apply ai | apply ap | apply au | apply ad | apply ak | apply aB) | refine az rfl rr_ ?_ | (refine bD rfl rr_ (fun hc => ?_) (fun hc => ?_)))
    all_goals
      refine ao x_ rfl (.tmp _ _ rfl) (fun _ => ?_)
      exact aZ (by simp [*])
def cxA (m : aM) (k : Int) : Option aL := if 0 ≤ k then m.contexts[k.toNat]? else none
theorem xw {m : aM} {k : Int} (h : k < 0) : cxA m k = none := by unfold cxA; rw [if_neg (by omega)]
theorem iY {m : aM} {k : Nat} (h : k < m.contexts.length) : cxA m (k : Int) = some m.contexts[k] := by
  unfold cxA
  rw [if_pos (by omega), Int.toNat_natCast, List.getElem?_eq_getElem h]
theorem mN {m : aM} {k : Int} {c : aL} (h : cxA m k = some c) : 0 ≤ k ∧ ∃ hk : k.toNat < m.contexts.length, m.contexts[k.toNat] = c := by
  unfold cxA at h
  split at h
  · rename_i h0
    exact ⟨h0, List.getElem?_eq_some_iff.1 h⟩
  · cases h
def cdA (m : aM) (k : Int) : Option aT := if 0 ≤ k then m.base.codes[k.toNat]? else none
theorem xO {m : aM} {k : Nat} (h : k < m.base.codes.length) : cdA m (k : Int) = some m.base.codes[k] := by
  unfold cdA
  rw [if_pos (by omega), Int.toNat_natCast, List.getElem?_eq_getElem h]
theorem wh {m : aM} {k : Int} {c : aT} (h : cdA m k = some c) : 0 ≤ k ∧ ∃ hk : k.toNat < m.base.codes.length, m.base.codes[k.toNat] = c := by
  unfold cdA at h
  split at h
  · rename_i h0
    exact ⟨h0, List.getElem?_eq_some_iff.1 h⟩
  · cases h
def iD (m : aM) : Prop := ∀ (i : Nat) (h : i < m.contexts.length), -1 ≤ m.contexts[i].sender ∧ m.contexts[i].sender < i
inductive OnW (m : aM) (a : Int) : Int → Prop
  | here : OnW m a a
  | up (k : Nat) (h : k < m.contexts.length) (hne : (k : Int) ≠ a) (hr : OnW m a m.contexts[k].sender) : OnW m a k
theorem qT {m : aM} {a : Int} {k : Nat} (h : k < m.contexts.length) (hne : (k : Int) ≠ a) : OnW m a k ↔ OnW m a m.contexts[k].sender := by
  constructor
  · intro hb
    generalize hk : (k : Int) = q at hb
    cases hb with
    | here => exact absurd hk hne
    | up k' h' hne' hr =>
      obtain rfl : k = k' := by omega
      exact hr
  · exact .up k h hne
theorem uf {m : aM} {a k : Int} (h : k < 0) : OnW m a k ↔ k = a := by
  constructor
  · intro hb
    cases hb with
    | here => rfl
    | up k' h' hne' hr => omega
  · rintro rfl; exact .here
theorem yk {m : aM} (hs : iD m) {a k : Int} (h : OnW m a k) (hk : k < m.contexts.length) : a < m.contexts.length := by
  induction h with
  | here => exact hk
  | up k h hne hr ih => exact ih (by have := hs k h; omega)
open Classical in
noncomputable def onB (m : aM) (a k : Int) : Bool := decide (OnW m a k)
def dps (x : aT) : List Int := (bP x.instrs).getD []
def wY (m : aM) (c : aL) (less : Int) : Bool := match cdA m c.code with
  | some x => decide (c.pc < x.instrs.length) && (decide (0 ≤ gd (dps x) c.pc) && decide ((c.stack.length : Int) = IntKind.i64.wrap (gd (dps x) c.pc - less)))
  | none => false
noncomputable def j4 (m : aM) (c : aL) (less : Int) : Bool := if c.mark = 0 then wY m c less else if c.mark = 3 ∨ c.mark = 5 then onB m c.other c.sender else true
inductive si (m : aM) : Int → Int → Prop
  | out (less k : Int) (h : k < 0) : si m less k
  | up (less : Int) (k : Nat) (h : k < m.contexts.length) (hs : j4 m m.contexts[k] less = true) (hr : si m 1 m.contexts[k].sender) : si m less k
theorem jL {m : aM} {less : Int} {k : Nat} (h : k < m.contexts.length) : si m less k ↔ j4 m m.contexts[k] less = true ∧ si m 1 m.contexts[k].sender := by
  constructor
  · intro hb
    generalize hk : (k : Int) = q at hb
    cases hb with
    | out l k' h' => omega
    | up l k' h' hs hr =>
      obtain rfl : k = k' := by omega
      exact ⟨hs, hr⟩
  · rintro ⟨h1, h2⟩; exact .up less k h h1 h2
def cO (m : aM) (a : Int) : Prop := ∃ c, cxA m a = some c ∧ c.mark = 0 ∧ si m 0 a
open Classical in
noncomputable def gx (m : aM) (a : Int) : Bool := decide (cO m a)
def pN (o : aR) : List Int := if o.kind = 3 then o.numbers.drop 1 else []
def qz (m : aM) : List Int := m.store.objects.flatMap pN
def j8 (m : aM) : List Int := if m.status = 0 then [m.now] else []
def nJ (m : aM) (L : List Int) : Prop := (∀ p ∈ L, 0 ≤ p ∧ p < m.processes.length) ∧ L.Nodup ∧ ∀ p ∈ L, ∀ q, m.processes[p.toNat]? = some q → cO m q.at_
theorem lB {m : aM} {L L' : List Int} (h : L.Perm L') (k : nJ m L) : nJ m L' := ⟨fun p hp => k.1 p (h.mem_iff.2 hp), h.nodup_iff.1 k.2.1, fun p hp => k.2.2 p (h.mem_iff.2 hp)⟩
theorem l6 {m : aM} : nJ m (m.ready ++ j8 m ++ qz m) ↔ nJ m (j8 m ++ m.ready ++ qz m) :=
  ⟨lB (List.perm_append_comm.append_right _), lB (List.perm_append_comm.append_right _)⟩
def tf (m : aM) (n0 n1 n2 : Int) : Prop := (n0 = -1 ∧ n1 = -1 ∧ n2 = 0) ∨ (n2 = 1 ∧ ∃ c, cxA m n1 = some c ∧ c.mark = 3 ∧ 0 ≤ n0 ∧ OnW m n0 c.sender)
def ro (m : aM) (o : aR) : Prop := o.kind = 1 → ∀ n0 n1 n2, o.numbers = [n0, n1, n2] → tf m n0 n1 n2
def za (m : aM) (v : aC) (most : Int) : Prop := v.kind = 7 ∧ ∃ b x, m.blocks[v.number.toNat]? = some b ∧ cdA m b.code = some x ∧ x.params ≤ most
open Classical in
noncomputable def pu (m : aM) (v : aC) (most : Int) : Bool := decide (za m v most)
def mkA (m : aM) (k : Int) : Int := match cxA m k with | some d => d.mark | none => 0
def doB (m : aM) (k i : Int) : Bool := inR i 0 (k - 1) && decide (mkA m i = 1)
def v1 (l : List aC) (g : aC → Bool) : Bool := match l with
  | [a] => g a
  | _ => false
def v3 (l : List aC) (g : aC → aC → aC → Bool) : Bool := match l with
  | [a, b, c] => g a b c
  | _ => false
theorem we {l : List aC} {g : aC → Bool} (h : ¬ l.length = 1) : v1 l g = false := by
  match l, h with
  | [], _ => rfl
  | [a], h => exact absurd rfl h
  | _ :: _ :: _, _ => rfl
theorem x5 {l : List aC} {g : aC → aC → aC → Bool} (h : ¬ l.length = 3) : v3 l g = false := by
  match l, h with
  | [], _ => rfl
  | [_], _ => rfl
  | [_, _], _ => rfl
  | [a, b, c], h => exact absurd rfl h
  | _ :: _ :: _ :: _ :: _, _ => rfl
theorem vi (a : aC) (g : aC → Bool) : v1 [a] g = g a := rfl
theorem yE (a b c : aC) (g : aC → aC → aC → Bool) : v3 [a, b, c] g = g a b c := rfl
noncomputable def vW (m : aM) (k : Int) (c : aL) : Bool :=
  if c.mark = 1 then v3 c.values fun a b d => decide (a.kind = 5) && (pF m.store.classes 1 a.number && (pu m b 1 && pu m d 0))
  else if c.mark = 2 then v1 c.values fun a => pu m a 0
  else if c.mark = 3 then v1 c.values fun a => decide (a.kind = 6) && doB m k c.other
  else if c.mark = 4 then decide (c.values.length = 1)
  else if c.mark = 5 then inR c.other (-1) (k - 1) && (decide (c.values.length = 1) && (!c.retry || doB m k c.other))
  else false
def eqV (x y : aC) : Bool := decide (x.kind = y.kind) && (decide (x.number = y.number) && (decide (x.text = y.text) && true))
def shB (c : aL) : Bool := decide (c.code = 0) && (decide (c.pc = 0) && (decide (c.outer = -1) && (decide (c.home = -1) && (eqV c.self ⟨0, 0, ⟨#[]⟩⟩ && (decide (c.slots.length = 0) && (decide (c.stack.length = 0) && (!c.retry || decide (c.mark = 5))))))))
def xU (c : aL) : Bool := decide (c.mark = 3) || (decide (c.mark = 5) || decide (c.other = 0))
def yW (m : aM) (o : List Int) (k : Int) (c : aL) (x : aT) : Bool :=
  if x.block = true then inR c.outer 0 (k - 1) && (match cxA m c.outer with | some p => decide (p.mark = 0) && (decide (p.code = gd o c.code) && (decide (c.home = p.home) && eqV c.self p.self)) | none => false)
  else decide (c.outer = -1) && decide (c.home = k)
def plB (m : aM) (o : List Int) (k : Int) (c : aL) : Bool :=
  decide (c.values.length = 0) && (decide (c.other = 0) && (!c.retry && (inR c.code 0 ((m.base.codes.length : Int) - 1) && (match cdA m c.code with | some x => decide ((c.slots.length : Int) = x.slots) && (inR c.pc 0 x.instrs.length && (decide (c.stack.length ≤ 250) && yW m o k c x)) | none => false))))
def qk (m : aM) (v : aC) : Prop := ch m.store m.blocks.length v = true
def kN (m : aM) (l : List aC) : Bool := l.all (ch m.store m.blocks.length)
theorem ra {m : aM} {l : List aC} (h : kN m l = true) : ∀ v ∈ l, qk m v := fun v hv => List.all_eq_true.1 h v hv
noncomputable def lU (m : aM) (o : List Int) (k : Int) (c : aL) : Bool :=
  inR c.sender (-1) (k - 1) && (ch m.store m.blocks.length c.self && (kN m c.slots && (kN m c.stack && (kN m c.values && (if c.mark = 0 then plB m o k c else shB c && (vW m k c && xU c))))))
def gP (m : aM) (o : List Int) (b : aQ) : Bool :=
  inR b.code 0 ((m.base.codes.length : Int) - 1) && ((match cdA m b.code with | some x => x.block | none => false) && (inR b.outer 0 ((m.contexts.length : Int) - 1) && (match cxA m b.outer with | some c => decide (c.mark = 0) && (decide (c.code = gd o b.code) && (decide (b.home = c.home) && eqV b.self c.self)) | none => false)))
def xW (m : aM) (o : List Int) : Prop := (∀ (i : Nat) (h : i < m.contexts.length), lU m o i m.contexts[i] = true) ∧ ∀ b ∈ m.blocks, gP m o b = true
theorem lQ {m : aM} {o : List Int} {k : Int} {c : aL} (h : lU m o k c = true) : (-1 ≤ c.sender ∧ c.sender ≤ k - 1) ∧ qk m c.self ∧ kN m c.slots = true ∧ kN m c.stack = true ∧ kN m c.values = true ∧ (if c.mark = 0 then plB m o k c else shB c && (vW m k c && xU c)) = true := by
  unfold lU at h
  simp only [Bool.and_eq_true] at h
  obtain ⟨h1, h2, h3, h4, h5, h6⟩ := h
  exact ⟨of_decide_eq_true h1, h2, h3, h4, h5, h6⟩
theorem nM {m : aM} {o : List Int} (h : ∀ (i : Nat) (h : i < m.contexts.length), lU m o i m.contexts[i] = true) : iD m := fun i hi => by
  have := (lQ (h i hi)).1
  omega
theorem pg {m : aM} {o : List Int} {k : Int} {c : aL} (h : lU m o k c = true) (h0 : c.mark = 0) : ∃ x, cdA m c.code = some x ∧ (0 ≤ c.code ∧ c.code < m.base.codes.length) ∧ (0 ≤ c.pc ∧ c.pc ≤ x.instrs.length) ∧ c.stack.length ≤ 250 := by
  have h1 := (lQ h).2.2.2.2.2
  rw [if_pos h0] at h1
  unfold plB at h1
  simp only [Bool.and_eq_true] at h1
  obtain ⟨_, _, _, h4, h5⟩ := h1
  have h4 := of_decide_eq_true h4
  cases hx : cdA m c.code with
  | none => rw [hx] at h5; cases h5
  | some x =>
    rw [hx] at h5
    simp only [Bool.and_eq_true] at h5
    obtain ⟨_, h6, h7, _⟩ := h5
    exact ⟨x, rfl, by omega, of_decide_eq_true h6, of_decide_eq_true h7⟩
section
variable {P : Program} {w0 : World} {N : Nat} {Q : Exit → Act → World → Prop} {env : Env} {objs : bp} {o : Oper}
theorem yO {x y : Operand} {ts : Array TypeId} {k : IntKind} {m n : Int} (ho : o.op = .call { callee := .builtin .min, args := #[x, y], argTypes := ts }) (hx : ev env x = some (.int k m)) (hy : ev env y = some (.int k n)) : bs P w0 env objs o (.int k (if n < m then n else m)) := a6 fun a w hw hop => by
  have h0 := (hop x (by simp [ho, Op.operands, Call.operands]) _ hx).int_inv
  have h1 := (hop y (by simp [ho, Op.operands, Call.operands]) _ hy).int_inv
  refine ⟨.int k (if n < m then n else m), ?_, .int _ _⟩
  simp only [execOp, ho, resolve, Sem.run_bind, Sem.run_pure, Result.andThen_ok, invoke, builtin, List.map_toArray, List.map_cons, List.map_nil, h0, h1]
  simp [Builtin.min_, Builtin.min2, Sem.run_pure, Result.andThen_ok]
theorem zj {ops : Array Oper} {rest : List Oper} {d T0 : Nat} {pos : String} {af : Array Edge} {g : Option (Nat × Bool)} {x y : Operand} {ts : Array TypeId} {k : IntKind} {m n : Int} (hN : Nat.blt d N = true) (hx : ev env x = some (.int k m)) (hy : ev env y = some (.int k n)) (h : AL P w0 N ops Q rest ((d, .int k (if n < m then n else m)) :: env) objs) :
    AO P w0 N ops Q ⟨some d, .call { callee := .builtin .min, args := #[x, y], argTypes := ts }, T0, pos, af, g⟩ rest env objs := sf rfl hN (yO rfl hx hy) h
end
end Go.Proofs.YthpdkhejeookhaaGreatDoor
