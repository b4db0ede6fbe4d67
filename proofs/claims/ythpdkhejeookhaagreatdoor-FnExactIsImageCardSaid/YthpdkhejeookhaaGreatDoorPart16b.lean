/- Part 16 of the proof, piece 2. -/
import Derived.Test.YthpdkhejeookhaaGreatDoorPart15d
import Derived.Test.YthpdkhejeookhaaGreatDoorPart14d
import Derived.Test.YthpdkhejeookhaaGreatDoorPart9
import Derived.Test.YthpdkhejeookhaaGreatDoorPart6
import Derived.Test.YthpdkhejeookhaaGreatDoorPart11
import Derived.Test.YthpdkhejeookhaaGreatDoorPart12
import Derived.Test.YthpdkhejeookhaaGreatDoorPart16
namespace Go.Proofs.YthpdkhejeookhaaGreatDoor
open Go Go.RowKit
set_option maxRecDepth 20000
section
variable {G : World → Prop}
set_option maxRecDepth 4000 in
set_option maxHeartbeats 4000000 in
theorem oQ (hst : aY G) (lo : Nat) (ccl cen : TV) (cs : List aT) (mn : Int) (hne : 1 ≤ cs.length) (hcs : cs.length ≤ 1048576 ∧ ∀ y ∈ cs, aT.small 1048576 y) :
    Ct Tryz.prog G 99 [.agg [ccl, .sl lo 4 (cs.map (aT.tw lo)), cen, .int .i64 mn]] (wK cs) := by
  refine aJ Tryz.func99 rfl Tryz.ntmps99 rfl rfl fun w0 _ hG => ?_
  have hl2 := aT.len lo cs
  have hcl := hcs.1
  have hrep := fun lo => oV (G := G) lo cs.length hne hcl
  repeat' (first | ((with_reducible apply o_y); exact y_; rfl) | refine bf ?_ | refine dk ?_ | ((with_reducible apply bE); rfl; kernel_rfl; (repeat (first | exact bA.nil | ((with_reducible apply bA.cons); rfl))); exact hG; exact hrep _; exact .nil _; intro y _; obtain ⟨ss, bb⟩ := y; refine eb ?_) | with_reducible refine bx (id := 2) ?_ | with_reducible refine ab rfl ?_ | (with_reducible first | apply ag | apply aa | apply ah | apply ac))
  refine ⟨?_⟩
  generalize ss = sd; generalize bb = bd
  have hst0 : ek cs 0 (List.replicate cs.length (-1)) = dy cs := rfl
  have hin0 := fd cs.length
  unfold wK
  generalize dy cs = R at hst0
  generalize List.replicate cs.length (-1 : Int) = o0 at hst0 hin0
  repeat' (first | ((with_reducible apply o_y); exact y_; rfl) | with_reducible refine ab rfl ?_ | (with_reducible first | apply ag | apply aa | apply ah | apply ac | apply ai))
  apply aK (X := Nat × List Int) [1, 4, 17, 18] (fun x => [(19, .int .i64 (x.1 : Int))]) (fun x => [(sd, bd, .row 1 (bv x.2))]) (fun x => x.1 ≤ cs.length ∧ cB cs.length x.2 ∧ ek cs x.1 x.2 = R) (fun x => cs.length - x.1) (0, o0) ⟨Nat.zero_le _, hin0, hst0⟩
  exact kp_; (repeat (first | exact bj.envNil | refine bj.envCons we_ ?_))
  · exact .refl _
  clear hin0 hst0
  rintro ⟨i, o⟩ ⟨hi, hin, hR⟩
  dsimp only at hi hin hR ⊢
  have hol : (bv o).length = cs.length := by rw [aS]; exact hin.1
  by_cases hlt : i < cs.length
  · have hra := bN (lo := lo) hlt
    have hsm := hcs.2 _ (List.getElem_mem hlt)
    rw [jz hlt] at hR
    generalize cs[i] = c at hra hsm hR
    obtain ⟨cb, cp, csl, is⟩ := c
    dsimp only at hra hR
    have hil := aD.len lo is
    have hisl : is.length ≤ 1048576 := hsm.1
    repeat' (first | ((with_reducible apply o_y); exact y_; rfl) | (refine aI ?_; intro ss bb) | refine aA ?_ | with_reducible refine ab rfl ?_ | (with_reducible first | apply ag | apply aa | apply ah | apply ac | apply ai | apply ap) | (refine ae rfl rr_ dd_ ?_))
    apply aK (X := Nat × List Int) [1, 4, 5, 17, 18, 19, 25, 26] (fun x => [(27, .int .i64 (x.1 : Int))]) (fun x => [(sd, bd, .row 1 (bv x.2))]) (fun x => x.1 ≤ is.length ∧ cB cs.length x.2 ∧ eg cs i (is.drop x.1) x.2 = R) (fun x => is.length - x.1) (0, o) ⟨Nat.zero_le _, hin, hR⟩
    exact kp_; (repeat (first | exact bj.envNil | refine bj.envCons we_ ?_))
    · exact pk_
    clear hin hR hol
    rintro ⟨k, o⟩ ⟨hk, hin, hR⟩
    dsimp only at hk hin hR ⊢
    have hol : (bv o).length = cs.length := by rw [aS]; exact hin.1
    by_cases hlk : k < is.length
    · have hrk := gc (lo := lo) hlk
      rw [jy hlk] at hR
      generalize is[k] = x at hrk hR
      obtain ⟨op, a, b, t⟩ := x
      unfold ud at hR
      dsimp only at hrk hR
      by_cases h15 : op = 15
      · rw [if_pos h15] at hR
        have h15' : ¬ op ≠ 15 := fun h => h h15
        by_cases hin2 : 0 ≤ a ∧ a ≤ (i : Int) - 1
        · have cin := a7 (G := G) a 0 ((i - 1 : Nat) : Int)
          rw [pQ (by omega)] at cin
          obtain ⟨q, rfl⟩ : ∃ q : Nat, a = q := ⟨a.toNat, by omega⟩
          have hql : q < o.length := by rw [hin.1]; omega
          have hrq := dW hql
          have hqc : q < cs.length := by omega
          have hrc := bN (lo := lo) hqc
          have hblk := fun o' k' hp hinv => kn (cs := cs) (i := i) (k := k') (is := is) (o := o') (a := q) hlt hinv hqc hp
          generalize cs[q] = y at hrc hblk
          obtain ⟨yb, yp, ysl, yi⟩ := y
          dsimp only at hrc hblk
          by_cases hg : 0 ≤ gd o (q : Int)
          · rw [if_neg fun h => h.2 hg] at hR
            cases yb
            all_goals
              repeat' (first | ((with_reducible apply o_y); exact y_; rfl) | (refine aI ?_; intro ss bb) | refine aA ?_ | refine aw hG hst (cin) ?_ | with_reducible refine ab rfl ?_ | (with_reducible first | apply ag | apply aa | apply ah | apply ac | apply ai | apply ap | apply au | apply ad | apply ak) | refine aP rfl rfl rfl rr_ ?_ | refine aO rfl rfl rfl rr_ rfl rfl rfl ?_ | refine av rfl rr_ ?_ | (refine ae rfl rr_ dd_ ?_) | (refine aj rfl rr_ dd_ ?_))
              refine dq x_ rfl (.tmp _ _ rfl) (.tmp _ _ rfl) (fun _ => ?_) (fun _ => ?_)
              · exact fl hR.symm
              · exact dB hR.symm
          · rw [if_pos ⟨hin2, hg⟩, Int.toNat_natCast] at hR
            dsimp only at hR
            have hset := mG o q (i : Int)
            have hin3 := (jO (n := cs.length) (i := i) (x := ⟨15, q, b, t⟩) (o := o) (o' := o.set q (i : Int)) hlt (by unfold ud; rw [if_pos rfl, if_pos ⟨hin2, hg⟩, Int.toNat_natCast]) hin).1
            cases yb
            case false =>
              have hno := hblk (o.set q (i : Int)) (k + 1) rfl hin3 (by rw [iG hql]; omega)
              rw [hR] at hno
              repeat' (first | ((with_reducible apply o_y); exact y_; rfl) | (refine aI ?_; intro ss bb) | refine aA ?_ | refine aw hG hst (cin) ?_ | with_reducible refine ab rfl ?_ | (with_reducible first | apply ag | apply aa | apply ah | apply ac | apply ai | apply ap | apply au | apply ad | apply ak) | refine aP rfl rfl rfl rr_ ?_ | refine aO rfl rfl rfl rr_ rfl rfl rfl ?_ | refine av rfl rr_ ?_ | (refine ae rfl rr_ dd_ ?_) | (refine aj rfl rr_ dd_ ?_))
              refine dq x_ rfl (.tmp _ _ rfl) (.tmp _ _ rfl) (fun _ => ?_) (fun _ => ?_)
              · exact fl hno
              · exact dB hno
            repeat' (first | ((with_reducible apply o_y); exact y_; rfl) | (refine aI ?_; intro ss bb) | refine aA ?_ | refine aw hG hst (cin) ?_ | refine cE ?_ | with_reducible refine ab rfl ?_ | (with_reducible first | apply ag | apply aa | apply ah | apply ac | apply ai | apply ap | apply aB) | refine aP rfl rfl rfl rr_ ?_ | (refine ae rfl rr_ dd_ ?_) | (refine aj rfl rr_ dd_ ?_))
            rw [hset]
            refine aG (k + 1, o.set q (i : Int)) ⟨by dsimp only; omega, hin3, hR⟩ (by dsimp only; omega) (.of _ nw_ od_ pk_)
        · have cin := a7 (G := G) a 0 ((i : Int) - 1)
          have cin' := a7 (G := G) a 0 ((i - 1 : Nat) : Int)
          rw [vy hin2] at cin
          rw [if_neg fun h => hin2 h.1] at hR
          repeat' (first | ((with_reducible apply o_y); exact y_; rfl) | (refine aI ?_; intro ss bb) | refine aA ?_ | refine aw hG hst (cin) ?_ | with_reducible refine ab rfl ?_ | (with_reducible first | apply ag | apply aa | apply ah | apply ac | apply ai | apply ap | apply au | apply ad | apply ak) | refine aO rfl rfl rfl rr_ rfl rfl rfl ?_ | refine av rfl rr_ ?_ | (refine ae rfl rr_ dd_ ?_) | (refine aj rfl rr_ dd_ ?_))
          refine dq x_ rfl (.tmp _ _ rfl) (.tmp _ _ rfl) (fun _ => ?_) (fun _ => ?_)
          · exact fl hR.symm
          · exact dB hR.symm
      · rw [if_neg h15] at hR
        dsimp only at hR
        repeat' (first | ((with_reducible apply o_y); exact y_; rfl) | (refine aI ?_; intro ss bb) | refine aA ?_ | with_reducible refine ab rfl ?_ | (with_reducible first | apply ag | apply aa | apply ah | apply ac | apply ai | apply aH | apply ap | apply ar | apply aq) | (refine ae rfl rr_ dd_ ?_))
        refine aG (k + 1, o) ⟨by dsimp only; omega, hin, hR⟩ (by dsimp only; omega) (.of _ nw_ od_ pk_)
    · rw [jY hlk] at hR
      repeat' (first | ((with_reducible apply o_y); exact y_; rfl) | with_reducible refine ab rfl ?_ | (with_reducible first | apply ag | apply aa | apply ah | apply ac | apply aH | apply ar | apply aq | apply aB) | (refine aj rfl rr_ dd_ ?_))
      refine aG (i + 1, o) ⟨by dsimp only; omega, hin, hR⟩ (by dsimp only; omega) (.of _ nw_ od_ pk_)
  · rw [kd hlt] at hR
    repeat' (first | ((with_reducible apply o_y); exact y_; rfl) | with_reducible refine ab rfl ?_ | (with_reducible first | apply ag | apply aa | apply ah | apply ac | apply ai | apply aH | apply ar | apply aq) | (refine aj rfl rr_ dd_ ?_))
    apply aK (X := Nat) [1, 4, 66, 67] (fun j => [(68, .int .i64 (j : Int))]) (fun _ => [(sd, bd, .row 1 (bv o))]) (fun j => j ≤ cs.length ∧ ∀ q, q < j → ∀ h : q < cs.length, cs[q].block = decide (0 ≤ gd o (q : Int))) (fun j => cs.length - j) 0 ⟨Nat.zero_le _, by omega⟩
    exact kp_; (repeat (first | exact bj.envNil | refine bj.envCons we_ ?_))
    · exact .refl _
    rintro j ⟨hj, hja⟩
    try dsimp only
    by_cases hlj : j < cs.length
    · have hra := bN (lo := lo) hlj
      have hrj := dW (o := o) (j := j) (by rw [hin.1]; exact hlj)
      have hbad := lL (o := o) hlj
      have hnx : cs[j].block = decide (0 ≤ gd o (j : Int)) → ∀ q, q < j + 1 → ∀ h : q < cs.length, cs[q].block = decide (0 ≤ gd o (q : Int)) := fun ho => bT hja fun _ => ho
      generalize cs[j] = c at hra hbad hnx
      obtain ⟨cb, cp, csl, is⟩ := c
      dsimp only at hra hbad hnx
      generalize gd o (j : Int) = v at hrj hbad hnx
      by_cases hb : cb = decide (0 ≤ v)
      · repeat' (first | ((with_reducible apply o_y); exact y_; rfl) | (refine aI ?_; intro ss bb) | refine aA ?_ | with_reducible refine aF (by kernel_rfl) (by kernel_rfl) ?_ | with_reducible refine aN ?_ | with_reducible refine aE rfl ?_ | ((with_reducible apply d_y); exact y_; rfl) | with_reducible refine ab rfl ?_ | (with_reducible first | apply ag | apply aa | apply ah | apply ac | apply ai | apply ap | apply au | apply ad | apply ak | apply aB) | (refine ae rfl rr_ dd_ ?_) | (refine cf rfl rr_ (fun hc => ?_) (fun hc => ?_)))
        all_goals first
          | exact aG (j + 1) ⟨by omega, hnx hb⟩ (by omega) (.of _ nw_ od_ pk_)
          | (exfalso; simp_all; done)
      · rw [hbad hb] at hR
        repeat' (first | ((with_reducible apply o_y); exact y_; rfl) | (refine aI ?_; intro ss bb) | refine aA ?_ | with_reducible refine aF (by kernel_rfl) (by kernel_rfl) ?_ | with_reducible refine aN ?_ | with_reducible refine aE rfl ?_ | ((with_reducible apply d_y); exact y_; rfl) | with_reducible refine ab rfl ?_ | (with_reducible first | apply ag | apply aa | apply ah | apply ac | apply ai | apply ap | apply au | apply ad | apply ak | apply aB) | (refine ae rfl rr_ dd_ ?_) | (refine cf rfl rr_ (fun hc => ?_) (fun hc => ?_)))
        all_goals first
          | (exfalso; simp_all; done)
          | (refine dq x_ rfl (.tmp _ _ rfl) (.tmp _ _ rfl) (fun _ => ?_) (fun _ => ?_)
             · exact fl hR.symm
             · exact dB hR.symm)
    · rw [ke fun q hq => hja q (by omega)] at hR
      repeat' (first | ((with_reducible apply o_y); exact y_; rfl) | with_reducible refine ab rfl ?_ | (with_reducible first | apply ag | apply aa | apply ah | apply ac | apply aH | apply au | apply ar | apply aq) | (refine aj rfl rr_ dd_ ?_))
      refine dq x_ rfl (.tmp _ _ rfl) (.tmp _ _ rfl) (fun _ => ?_) (fun _ => ?_)
      · exact qW hR.symm hin.1 List.mem_cons_self
      · exact lS hR.symm
end
end Go.Proofs.YthpdkhejeookhaaGreatDoor
