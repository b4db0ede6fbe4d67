/- Part 17 of the proof: the texts ImA, IvN, RsP, RsA, RsB, RsC. -/
import Derived.Test.YtofnnnpahglfdaaGreatDoorFo3
import Derived.Test.YtofnnnpahglfdaaGreatDoorFo12
import Derived.Test.YtofnnnpahglfdaaGreatDoorFo11
import Derived.Test.YtofnnnpahglfdaaGreatDoorFo10
set_option linter.all false
set_option maxHeartbeats 8000000
set_option maxRecDepth 20000
namespace Go.Proofs.YtofnnnpahglfdaaGreatDoor
open Go Go.RowKit
def fb (s : ByteArray) : Bool := (List.range s.size).all (fun j => inR (bat s j) 32 126) && decide (s.size <= 200)
def ju (k n : Int) (t : ByteArray) : Bool :=
 if k = 0 then decide (n = 0) && decide (t = ⟨#[]⟩)
 else if k = 1 then inR n 0 1 && decide (t = ⟨#[]⟩)
 else if k = 2 then inR n (-999999999) 999999999 && decide (t = ⟨#[]⟩)
 else if k = 3 then decide (n = 0) && fb t
 else if k = 4 then decide (n = 0) && bY t.data.toList
 else if k = 5 \/ k = 6 \/ k = 7 then decide (0 <= n) && decide (t = ⟨#[]⟩)
 else false
theorem rB (k : Int) : k = 0 \/ k = 1 \/ k = 2 \/ k = 3 \/ k = 4 \/ k = 5 \/ k = 6 \/ k = 7 \/ (¬ k = 0 /\ ¬ k = 1 /\ ¬ k = 2 /\ ¬ k = 3 /\ ¬ k = 4 /\ ¬ k = 5 /\ ¬ k = 6 /\ ¬ k = 7) := by omega
theorem acU {s : ByteArray} (h : ∀ j, j < s.size -> inR (bat s j) 32 126 = true) : fb s = decide (s.size <= 200) := by
 unfold fb
 rw [List.all_eq_true.2 fun j hj => h j (List.mem_range.1 hj), Bool.true_and]
theorem aaW {s : ByteArray} {j : Nat} (hj : j < s.size) (h : inR (bat s j) 32 126 = false) : fb s = false := by
 unfold fb
 have : (List.range s.size).all (fun j => inR (bat s j) 32 126) = false := by
   rw [Bool.eq_false_iff]
   intro h2
   have := List.all_eq_true.1 h2 j (List.mem_range.2 hj)
   rw [h] at this; cases this
 rw [this, Bool.false_and]
theorem aaV {s : ByteArray} (h : 200 < s.size) : fb s = false := by
 unfold fb
 rw [decide_eq_false (by omega), Bool.and_false]
section
variable {G : World -> Prop}
theorem nP (hst : aB G) (s : ByteArray) (hs : s.size <= 1048576) : Ct Tryz.prog G 119 [.str s] (fun _ => .bool (fb s)) := by
 refine am Tryz.func119 rfl Tryz.ntmps119 rfl rfl fun w0 _ hG => ?_
 repeat' refine W_ ?_
 apply ak (X := Nat) [0] (fun i => [(3, .int .i64 (i : Int))]) (fun _ => []) (fun i => i <= s.size /\ ∀ j, j < i -> inR (bat s j) 32 126 = true) (fun i => s.size - i) 0 ⟨Nat.zero_le _, fun j h => absurd h (Nat.not_lt_zero _)⟩
 exact kp_; exact nw_
 ·exact .refl _
 rintro i ⟨hi, hall⟩
 try dsimp only
 by_cases hlt : i < s.size
 ·have hwi := aN (G := G) (bat s i) 32 126
  have hbd := qh s i
  cases hb : inR (bat s i) 32 126 with
  | false =>
    rw [hb] at hwi
    rw [aaW hlt hb]
    repeat' (first | refine W_ ?_ | refine ab hG hst (hwi) ?_)
    exact r1_
  | true =>
    rw [hb] at hwi
    repeat' (first | refine W_ ?_ | refine ab hG hst (hwi) ?_)
    exact ag (i + 1) ⟨by omega, fun j hj => by
      rcases Nat.lt_or_ge j i with h | h
      ·exact hall j h
      ·obtain rfl : j = i := by omega
       exact hb⟩ (by omega) (.of _ nw_ od_ pk_)
 ·obtain rfl : i = s.size := by omega
  rw [acU hall]
  repeat' refine W_ ?_
  refine aE x_ rfl (.tmp _ _ rfl) (fun _ => ?_)
  exact aK (by rw [decide_eq_decide]; omega)
end
theorem oN (k n : Int) (t : ByteArray) (ht : t.size <= 1048576) : Ct Tryz.prog GL 152 [.agg [.int .i64 k, .int .i64 n, .str t]] (fun _ => .bool (ju k n t)) := by
 refine am Tryz.func152 rfl Tryz.ntmps152 rfl rfl fun w0 _ hG => ?_
 have hst := dA
 have h1 := aN (G := GL) n 0 1
 have h2 := aN (G := GL) n (-999999999) 999999999
 have h3 := nP (G := GL) hst t ht
 have h4 := afW t ht
 rcases rB k with rfl | rfl | rfl | rfl | rfl | rfl | rfl | rfl | ⟨g0, g1, g2, g3, g4, g5, g6, g7⟩
 ·have e : ju 0 n t = (decide (n = 0) && decide (t = ⟨#[]⟩)) := rfl
  rw [e]
  repeat' (first | refine W_ ?_ | refine aD ?_ | refine g_ (fun hg => ?_) (fun hg => ?_))
  all_goals
    refine aE x_ rfl (.tmp _ _ rfl) (fun _ => ?_)
    exact aK (by simp [*])
 ·have e : ju 1 n t = (inR n 0 1 && decide (t = ⟨#[]⟩)) := rfl
  rw [e]
  generalize inR n 0 1 = b at h1 |-
  cases b
  all_goals
    repeat' (first | refine W_ ?_ | refine aD ?_ | refine ab hG hst (h1) ?_)
    refine aE x_ rfl (.tmp _ _ rfl) (fun _ => ?_)
    exact aK (by simp [*])
 ·have e : ju 2 n t = (inR n (-999999999) 999999999 && decide (t = ⟨#[]⟩)) := rfl
  rw [e]
  generalize inR n (-999999999) 999999999 = b at h2 |-
  cases b
  all_goals
    repeat' (first | refine W_ ?_ | refine aD ?_ | refine ab hG hst (h2) ?_)
    refine aE x_ rfl (.tmp _ _ rfl) (fun _ => ?_)
    exact aK (by simp [*])
 ·have e : ju 3 n t = (decide (n = 0) && fb t) := rfl
  rw [e]
  repeat' (first | refine W_ ?_ | refine aD ?_ | refine ab hG hst (h3) ?_ | refine g_ (fun hg => ?_) (fun hg => ?_))
  all_goals
    refine aE x_ rfl (.tmp _ _ rfl) (fun _ => ?_)
    exact aK (by simp [*])
 ·have e : ju 4 n t = (decide (n = 0) && bY t.data.toList) := rfl
  rw [e]
  repeat' (first | refine W_ ?_ | refine aD ?_ | refine ab hG hst (h4) ?_ | refine g_ (fun hg => ?_) (fun hg => ?_))
  all_goals
    refine aE x_ rfl (.tmp _ _ rfl) (fun _ => ?_)
    exact aK (by simp [*])
 ·have e : ju 5 n t = (decide (0 <= n) && decide (t = ⟨#[]⟩)) := rfl
  rw [e]
  repeat' (first | refine W_ ?_ | refine aD ?_ | refine g_ (fun hg => ?_) (fun hg => ?_))
  all_goals
    refine aE x_ rfl (.tmp _ _ rfl) (fun _ => ?_)
    exact aK (by simp [*])
 ·have e : ju 6 n t = (decide (0 <= n) && decide (t = ⟨#[]⟩)) := rfl
  rw [e]
  repeat' (first | refine W_ ?_ | refine aD ?_ | refine g_ (fun hg => ?_) (fun hg => ?_))
  all_goals
    refine aE x_ rfl (.tmp _ _ rfl) (fun _ => ?_)
    exact aK (by simp [*])
 ·have e : ju 7 n t = (decide (0 <= n) && decide (t = ⟨#[]⟩)) := rfl
  rw [e]
  repeat' (first | refine W_ ?_ | refine aD ?_ | refine g_ (fun hg => ?_) (fun hg => ?_))
  all_goals
    refine aE x_ rfl (.tmp _ _ rfl) (fun _ => ?_)
    exact aK (by simp [*])
 ·have e : ju k n t = false := by
    unfold ju
    rw [if_neg g0, if_neg g1, if_neg g2, if_neg g3, if_neg g4, if_neg (by omega)]
  rw [e]
  repeat' (first | refine W_ ?_ | refine aD ?_)
  exact r1_
theorem fP (k n : Int) (t : ByteArray) (ht : t.size <= 1048576) : Ct Tryz.prog GL 100 [.agg [.int .i64 k, .int .i64 n, .str t]] (fun _ => .bool (ju k n t)) := by
 refine am Tryz.func100 rfl Tryz.ntmps100 rfl rfl fun w0 _ hG => ?_
 have hst := dA
 have h1 := a7 (G := GL) n 0 1
 have h2 := a7 (G := GL) n (-999999999) 999999999
 have h4 := afy t ht
 rcases rB k with rfl | rfl | rfl | rfl | rfl | rfl | rfl | rfl | ⟨g0, g1, g2, g3, g4, g5, g6, g7⟩
 ·have e : ju 0 n t = (decide (n = 0) && decide (t = ⟨#[]⟩)) := rfl
  rw [e]
  repeat' (first | refine W_ ?_ | refine aD ?_ | refine g_ (fun hg => ?_) (fun hg => ?_))
  all_goals
    refine aE x_ rfl (.tmp _ _ rfl) (fun _ => ?_)
    exact aK (by simp [*])
 ·have e : ju 1 n t = (inR n 0 1 && decide (t = ⟨#[]⟩)) := rfl
  rw [e]
  generalize inR n 0 1 = b at h1 |-
  cases b
  all_goals
    repeat' (first | refine W_ ?_ | refine aD ?_ | refine ab hG hst (h1) ?_)
    refine aE x_ rfl (.tmp _ _ rfl) (fun _ => ?_)
    exact aK (by simp [*])
 ·have e : ju 2 n t = (inR n (-999999999) 999999999 && decide (t = ⟨#[]⟩)) := rfl
  rw [e]
  generalize inR n (-999999999) 999999999 = b at h2 |-
  cases b
  all_goals
    repeat' (first | refine W_ ?_ | refine aD ?_ | refine ab hG hst (h2) ?_)
    refine aE x_ rfl (.tmp _ _ rfl) (fun _ => ?_)
    exact aK (by simp [*])
 ·have e : ju 3 n t = (decide (n = 0) && fb t) := rfl
  rw [e]
  by_cases hn : n = 0
  case neg =>
    have hn2 : n ≠ 0 := hn
    rw [decide_eq_false hn, Bool.false_and]
    repeat' (first | refine W_ ?_ | refine aD ?_)
    exact r1_
  subst hn
  have hn2 : ¬ ((0 : Int) ≠ 0) := fun h => h rfl
  rw [decide_eq_true rfl, Bool.true_and]
  by_cases hl : 200 < t.size
  ·rw [aaV hl]
   repeat' (first | refine W_ ?_ | refine aD ?_)
   exact r1_
  repeat' (first | refine W_ ?_ | refine aD ?_)
  apply ak (X := Nat) [1] (fun i => [(3, .int .i64 (i : Int))]) (fun _ => []) (fun i => i <= t.size /\ ∀ j, j < i -> inR (bat t j) 32 126 = true) (fun i => t.size - i) 0 ⟨Nat.zero_le _, fun j h => absurd h (Nat.not_lt_zero _)⟩
  exact kp_; exact nw_
  ·exact .refl _
  rintro i ⟨hi, hall⟩
  try dsimp only
  by_cases hlt : i < t.size
  ·have hbd := qh t i
   by_cases hlo : bat t i < 32
   ·rw [aaW hlt (show inR (bat t i) 32 126 = false by simp only [inR, decide_eq_false_iff_not]; omega)]
    repeat' refine W_ ?_
    exact r1_
   by_cases hhi : bat t i > 126
   ·rw [aaW hlt (show inR (bat t i) 32 126 = false by simp only [inR, decide_eq_false_iff_not]; omega)]
    repeat' refine W_ ?_
    exact r1_
   ·repeat' refine W_ ?_
    exact ag (i + 1) ⟨by omega, fun j hj => by
      rcases Nat.lt_or_ge j i with h | h
      ·exact hall j h
      ·obtain rfl : j = i := by omega
       simp only [inR, decide_eq_true_eq]; omega⟩ (by omega) (.of _ nw_ od_ pk_)
  ·obtain rfl : i = t.size := by omega
   rw [acU hall, decide_eq_true (by omega)]
   repeat' refine W_ ?_
   exact r1_
 ·have e : ju 4 n t = (decide (n = 0) && bY t.data.toList) := rfl
  rw [e]
  repeat' (first | refine W_ ?_ | refine aD ?_ | refine ab hG hst (h4) ?_ | refine g_ (fun hg => ?_) (fun hg => ?_))
  all_goals
    refine aE x_ rfl (.tmp _ _ rfl) (fun _ => ?_)
    exact aK (by simp [*])
 ·have e : ju 5 n t = (decide (0 <= n) && decide (t = ⟨#[]⟩)) := rfl
  rw [e]
  repeat' (first | refine W_ ?_ | refine aD ?_ | refine g_ (fun hg => ?_) (fun hg => ?_))
  all_goals
    refine aE x_ rfl (.tmp _ _ rfl) (fun _ => ?_)
    exact aK (by simp [*])
 ·have e : ju 6 n t = (decide (0 <= n) && decide (t = ⟨#[]⟩)) := rfl
  rw [e]
  repeat' (first | refine W_ ?_ | refine aD ?_ | refine g_ (fun hg => ?_) (fun hg => ?_))
  all_goals
    refine aE x_ rfl (.tmp _ _ rfl) (fun _ => ?_)
    exact aK (by simp [*])
 ·have e : ju 7 n t = (decide (0 <= n) && decide (t = ⟨#[]⟩)) := rfl
  rw [e]
  repeat' (first | refine W_ ?_ | refine aD ?_ | refine g_ (fun hg => ?_) (fun hg => ?_))
  all_goals
    refine aE x_ rfl (.tmp _ _ rfl) (fun _ => ?_)
    exact aK (by simp [*])
 ·have e : ju k n t = false := by
    unfold ju
    rw [if_neg g0, if_neg g1, if_neg g2, if_neg g3, if_neg g4, if_neg (by omega)]
  rw [e]
  repeat' (first | refine W_ ?_ | refine aD ?_)
  exact r1_
section
variable {G : World -> Prop}
theorem uM (hst : aB G) (lo : Nat) (n : Int) (bl : Bool) (pr sl : Int) (is : List ah) (hn : is.length <= 1048576) : Ct Tryz.prog G 262 [.int .i64 n, .cp 0 [.bool bl, .int .i64 pr, .int .i64 sl, .sl lo 4 (is.map (ah.tw lo))]] (fun _ => .bool (inR n 0 ((is.length : Int) - 1))) := by
 refine am Tryz.func262 rfl Tryz.ntmps262 rfl rfl fun w0 _ hG => ?_
 have hil := ah.len lo is
 repeat' (first | refine W_ ?_ | refine ab hG hst (aN _ _ _) ?_)
 exact r1_
theorem oh (hst : aB G) (n least : Int) (bl : Bool) (pr sl : Int) (t : TV) : Ct Tryz.prog G 263 [.int .i64 n, .agg [.bool bl, .int .i64 pr, .int .i64 sl, t], .int .i64 least] (fun _ => .bool (inR n least (IntKind.i64.wrap (sl - 1)))) := by
 refine am Tryz.func263 rfl Tryz.ntmps263 rfl rfl fun w0 _ hG => ?_
 repeat' (first | refine W_ ?_ | refine aD ?_ | refine ab hG hst (aN _ _ _) ?_)
 exact r1_
theorem x8 (hst : aB G) (hse : ∀ s : ByteArray, s.size <= 1048576 -> Ct Tryz.prog G 194 [.str s] (fun _ => .bool (bY s.data.toList)))
   (lo lo2 : Nat) (cl : List aa) (cen : TV) (cs : List aA) (mn : Int) (hcl : cl.length <= 1048576) (hcs : cs.length <= 1048576 /\ ∀ y ∈ cs, aA.small 1048576 y) (o : List Int) (hinv : cE cs.length o) (k : Nat) (own : aA) (hk : cs[k]? = some own) (hsl : 0 <= own.slots /\ own.slots <= 30)
   (x : ah) (hx : x.text.size <= 1048576) :
   Ct Tryz.prog G 197 [.agg [.sl lo 3 (cl.map (aa.tw lo)), .sl lo 4 (cs.map (aA.tw lo)), cen, .int .i64 mn], .sl lo2 1 (aS o), .int .i64 (k : Int), .agg [.int .i64 x.op, .int .i64 x.a, .int .i64 x.b, .str x.text]] (fun _ => .bool (eQ cs cl.length o k own x)) := by
 obtain ⟨op, a, b, t⟩ := x
 dsimp only at hx |-
 refine am Tryz.func197 rfl Tryz.ntmps197 rfl rfl fun w0 _ hG => ?_
 have hl1 := aa.len lo cl
 have hl2 := aA.len lo cs
 have hll := ao o
 have hkl : k < cs.length := (List.getElem?_eq_some_iff.1 hk).1
 have hrk : (cs.map (aA.tw lo))[k]? = some [.bool own.block, .int .i64 own.params, .int .i64 own.slots, .sl lo 4 (own.instrs.map (ah.tw lo))] := by rw [List.getElem?_map, hk]; rfl
 have hil := ah.len lo own.instrs
 have hin : own.instrs.length <= 1048576 := (hcs.2 own (List.mem_of_getElem? hk)).1
 have hw : IntKind.i64.wrap (own.slots - 1) = own.slots - 1 := IntWalk.i64_in _ (by omega)
 repeat' (first | refine H_ 2 ?_ | refine aD ?_ | refine ab hG hst (abb _) ?_)
 refine ⟨dp ?_⟩
 apply fh (X := Unit) [1, 2, 4, 7] (fun _ => [(54, .bool (!decide (ea ⟨op, a, b, t⟩)))]) (fun _ => []) (fun _ => True)
 case hk => (repeat (first | exact jq.nil | (apply jq.cons; rfl)))
 ·clear hrk hk hinv hse hl1 hl2 hll hin hil
  repeat' (first | refine W_ ?_ | refine ab hG hst (aN _ _ _) ?_ | refine g_ (fun hg => ?_) (fun hg => ?_))
  all_goals
    refine dV () trivial (.of _ (dg.envCons (j2 rfl ?_) dg.envNil) od_ pk_)
    simp only [Bool.not_eq_true', Bool.not_eq_false', ne_eq, Decidable.not_not] at *
    first
      | (simp [ea, *]; done)
 intro _ _
 by_cases hh : ea ⟨op, a, b, t⟩
 case neg =>
   have hB : eQ cs cl.length o k own ⟨op, a, b, t⟩ = false := by unfold eQ; rw [decide_eq_false hh]; rfl
   rw [hB, decide_eq_false hh, Bool.not_false]
   repeat' refine W_ ?_
   exact r1_
 have hB : eQ cs cl.length o k own ⟨op, a, b, t⟩ = cJ cs cl.length o k own ⟨op, a, b, t⟩ := by unfold eQ; rw [decide_eq_true hh]; rfl
 rw [hB, decide_eq_true hh, Bool.not_true]
 have hinv' : cE o.length o := by rw [hinv.1]; exact hinv
 have hvf : ez cs o k b = none -> ww cs o k ⟨op, a, b, t⟩ = false := fun h => by
   unfold ww
   dsimp only
   rw [h]
 clear hB hk
 repeat' (first | refine H_ 24 ?_ | (refine aj ?_; intro ss bb) | refine ac ?_ | refine my ?_ | refine ab hG hst (aN _ _ _) ?_ | refine ab hG hst (sy hst _ hx) ?_ | refine ab hG hst (hse _ hx) ?_ | refine ab hG hst (gM _ hx) ?_ | ((with_reducible apply uU); rfl; rfl; kernel_rfl; exact hG; exact hst; (repeat (first | exact ca.nil | ((with_reducible apply ca.cons); rfl; exact .same _))); (repeat (first | exact jN.nil | ((with_reducible apply jN.cons); (first | ((with_reducible apply bU.mpSame); (repeat (first | with_reducible exact mh | with_reducible refine mt ?_))) | exact bU.same _)))); rfl; first | exact uM hst lo _ _ _ _ _ hin | exact oh hst _ _ _ _ _ _) | refine c_ (fun hc => ?_) (fun hc => ?_) | refine g_ (fun hg => ?_) (fun hg => ?_))
 all_goals first
   | (refine aE x_ rfl (.tmp _ _ rfl) (fun _ => ?_)
      clear hrk hl1 hl2 hll hil hcs hse hh hinv
      refine aK ?_
      first
        | (simp [cJ, *]; done))
   | (refine ⟨?_⟩
      generalize ss = s12; generalize bb = b12
      repeat' refine W_ ?_
      apply ak (X := Nat) [1, 4, 7, 12, 14, 62] (fun n => [(15, .int .i64 (upN o n (k : Int))), (16, .int .i64 (n : Int))]) (fun _ => [(s12, b12, .box [.bool own.block, .int .i64 own.params, .int .i64 own.slots, .sl lo 4 (own.instrs.map (ah.tw lo))])]) (fun n => n <= b.toNat) (fun n => b.toNat - n) 0 (Nat.zero_le _)
      exact kp_; exact nw_
      ·exact .refl _
      intro n hn
      try dsimp only at hn |-
      have hol : o.length = cs.length := hinv.1
      have hup := uj hinv' n (k : Int) (.inr ⟨by omega, by omega⟩)
      by_cases hnb : (n : Int) < b
      ·by_cases hat : 0 <= upN o n (k : Int)
       ·obtain ⟨j, hj⟩ : ∃ j : Nat, upN o n (k : Int) = j := ⟨(upN o n (k : Int)).toNat, by omega⟩
        have hs := i6 o n (k : Int)
        rw [if_neg (by omega), hj] at hs
        have hge := adg hinv' (k := (k : Int)) ⟨by omega, by omega⟩ n hat
        rw [hj] at hup hge
        have hcl2 := hcs.1
        have hrow := eY (o := o) (j := j) (by omega)
        rw [hj]
        repeat' refine W_ ?_
        exact ag (n + 1) (by omega) (by omega) (.of _ nw_ od_ pk_)
       ·have hv := hvf (ul (n := n) (by omega) (by omega))
        repeat' refine W_ ?_
        refine aE x_ rfl (.tmp _ _ rfl) (fun _ => ?_)
        refine aK ?_
        clear hrk hl1 hl2 hll hil hcs hse hh hinv hvf
        subst_vars
        simp [cJ, hv]
      ·by_cases hb0 : b < 0
       ·have hv := hvf (sS hb0)
        repeat' (first | refine W_ ?_ | refine g_ (fun hg => ?_) (fun hg => ?_))
        all_goals
          refine aE x_ rfl (.tmp _ _ rfl) (fun _ => ?_)
          refine aK ?_
          clear hrk hl1 hl2 hll hil hcs hse hh hinv hvf
          subst_vars
          simp [cJ, hv]
       ·obtain rfl : b = (n : Int) := by omega
        by_cases hat : 0 <= upN o n (k : Int)
        ·obtain ⟨j, hj⟩ : ∃ j : Nat, upN o n (k : Int) = j := ⟨(upN o n (k : Int)).toNat, by omega⟩
         rw [hj] at hup
         have hjl : j < cs.length := by omega
         have hry := bL (lo := lo) hjl
         have hlev : ez cs o k (n : Int) = some cs[j] := wL (by omega) (by rw [Int.toNat_natCast]; exact hj) (List.getElem?_eq_getElem hjl)
         generalize cs[j] = y at hry hlev
         rw [hj]
         repeat' (first | refine V_ ?_ | ((with_reducible apply adV); rfl; rfl; kernel_rfl; exact hG; exact hst; (repeat (first | exact ca.nil | ((with_reducible apply ca.cons); rfl; exact .same _))); (repeat (first | exact jN.nil | ((with_reducible apply jN.cons); (first | ((with_reducible apply bU.mpSame); (repeat (first | with_reducible exact mh | with_reducible refine mt ?_))) | exact bU.same _)))); rfl; exact oh hst _ _ _ _ _ _))
         all_goals first
           | (refine aE x_ rfl (.tmp _ _ rfl) (fun _ => ?_)
              refine aK ?_
              clear hrk hl1 hl2 hll hil hcs hse hh hinv hvf
              subst_vars
              simp [cJ, ww, hlev]; done)
        ·have hv := hvf (ul (n := n) (by omega) (by omega))
         repeat' refine W_ ?_
         refine aE x_ rfl (.tmp _ _ rfl) (fun _ => ?_)
         refine aK ?_
         clear hrk hl1 hl2 hll hil hcs hse hh hinv hvf
         subst_vars
         simp [cJ, hv])
end
structure RS where
 met : List Bool
 out : List ByteArray
 todo : List Int
def agn : ByteArray := ⟨#[97, 115, 83, 121, 109, 98, 111, 108]⟩
def gb (l : List Bool) (k : Int) : Bool := l.getD k.toNat true
def af6 (s : RS) (k : Int) : RS := if gb s.met k then s else ⟨s.met.set k.toNat true, s.out, s.todo ++ [k]⟩
def agm (l : List ByteArray) (t : ByteArray) : List ByteArray := if ij l t then l else l ++ [t]
def rsI (s : RS) (x : ah) : RS :=
 if x.op = 3 \/ x.op = 13 \/ x.op = 14 then ⟨s.met, agm s.out x.text, s.todo⟩ else if x.op = 15 then af6 s x.a else s
def afM (l : List ah) (s : RS) : RS := l.foldl rsI s
def rsE (any : Bool) (s : RS) (e : az) : RS := if !gb s.met e.code && (any || ij s.out e.selector) then af6 s e.code else s
def aeV (any : Bool) (l : List az) (s : RS) : RS := l.foldl (rsE any) s
def afY (cs : List aA) (k : Int) : List ah := match cs[k.toNat]? with
 | some c => c.instrs
 | none => []
def qm (b : aw) (s : RS) : RS := match s.todo with
 | [] => aeV (ij s.out agn) b.entries s
 | k :: r => afM (afY b.codes k) ⟨s.met, s.out, r⟩
def rs0 (b : aw) : RS := ⟨(List.replicate b.codes.length false).set b.main.toNat true, [], [b.main]⟩
def adz (b : aw) : Nat -> RS
 | 0 => rs0 b
 | n + 1 => qm b (adz b n)
def Rs (b : aw) (s : RS) : Prop := ∃ n, s = adz b n
theorem Rs.step {b : aw} {s : RS} (h : Rs b s) : Rs b (qm b s) := by
 obtain ⟨n, rfl⟩ := h
 exact ⟨n + 1, rfl⟩
theorem qR {b : aw} {n : Nat} (h : qm b (adz b n) = adz b n) : ∀ m, n <= m -> adz b m = adz b n
 | 0, hm => by obtain rfl : n = 0 := by omega
               rfl
 | m + 1, hm => by
   by_cases he : n = m + 1
   ·rw [he]
   ·show qm b (adz b m) = _
    rw [qR h m (by omega), h]
theorem Rs.same {b : aw} {s t : RS} (h : Rs b s) (k : Rs b t) (hs : qm b s = s) (ht : qm b t = t) : s = t := by
 obtain ⟨n, rfl⟩ := h
 obtain ⟨m, rfl⟩ := k
 rcases Nat.le_total n m with h | h
 ·exact (qR hs m h).symm
 ·exact qR ht n h
structure agq (b : aw) : Prop where
 codes : b.codes.length <= 200
 main : 0 <= b.main /\ b.main < b.codes.length
 entries : ∀ e ∈ b.entries, 0 <= e.code /\ e.code < b.codes.length
 row : ∀ c ∈ b.codes, c.instrs.length <= 900 /\ ∀ x ∈ c.instrs, x.op = 15 -> 0 <= x.a /\ x.a < b.codes.length
def afb : List Bool -> Nat
 | [] => 0
 | b :: r => (if b then 0 else 1) + afb r
def RS.mu (s : RS) : Nat := s.todo.length + afb s.met
structure agp (b : aw) (n : Nat) (s : RS) : Prop where
 len : s.met.length = b.codes.length
 todo : ∀ k ∈ s.todo, 0 <= k /\ k < b.codes.length
 room : s.out.length + 900 * s.mu + n <= 180000
section
variable {G : World -> Prop}
end
section
variable {G : World -> Prop}
end
section
variable {G : World -> Prop}
end
end Go.Proofs.YtofnnnpahglfdaaGreatDoor
