/- Part 20 of the proof. -/
import Derived.Test.YtiihihgjiklnoaaGreatDoorRd3
import Derived.Test.YtiihihgjiklnoaaGreatDoorRd15
import Derived.Test.YtiihihgjiklnoaaGreatDoorRd13
set_option maxHeartbeats 4000000
set_option maxRecDepth 20000
namespace Go.Proofs.YtiihihgjiklnoaaGreatDoor
open Go Go.RowKit
def ep (s : ByteArray) : Bool := (List.range s.size).all (fun j => inR (bat s j) 32 126) && decide (s.size <= 200)
def hU (k n : Int) (t : ByteArray) : Bool :=
 if k = 0 then decide (n = 0) && decide (t = ⟨#[]⟩)
 else if k = 1 then inR n 0 1 && decide (t = ⟨#[]⟩)
 else if k = 2 then inR n (-999999999) 999999999 && decide (t = ⟨#[]⟩)
 else if k = 3 then decide (n = 0) && ep t
 else if k = 4 then decide (n = 0) && bY t.data.toList
 else if k = 5 \/ k = 6 \/ k = 7 then decide (0 <= n) && decide (t = ⟨#[]⟩)
 else false
theorem sv (k : Int) : k = 0 \/ k = 1 \/ k = 2 \/ k = 3 \/ k = 4 \/ k = 5 \/ k = 6 \/ k = 7 \/ (¬ k = 0 /\ ¬ k = 1 /\ ¬ k = 2 /\ ¬ k = 3 /\ ¬ k = 4 /\ ¬ k = 5 /\ ¬ k = 6 /\ ¬ k = 7) := by omega
theorem yS {s : ByteArray} (h : ∀ j, j < s.size -> inR (bat s j) 32 126 = true) : ep s = decide (s.size <= 200) := by
 unfold ep
 rw [List.all_eq_true.2 fun j hj => h j (List.mem_range.1 hj), Bool.true_and]
theorem wn {s : ByteArray} {j : Nat} (hj : j < s.size) (h : inR (bat s j) 32 126 = false) : ep s = false := by
 unfold ep
 have : (List.range s.size).all (fun j => inR (bat s j) 32 126) = false := by
   rw [Bool.eq_false_iff]
   intro h2
   have := List.all_eq_true.1 h2 j (List.mem_range.2 hj)
   rw [h] at this; cases this
 rw [this, Bool.false_and]
theorem wm {s : ByteArray} (h : 200 < s.size) : ep s = false := by
 unfold ep
 rw [decide_eq_false (by omega), Bool.and_false]
section
variable {G : World -> Prop}
theorem kL (hst : ay G) (s : ByteArray) (hs : s.size <= 1048576) : Ct Tryz.prog G 181 [.str s] (fun _ => .bool (ep s)) := by
 refine ak Tryz.func181 rfl Tryz.ntmps181 rfl rfl fun w0 _ hG => ?_
 repeat' refine W_ ?_
 apply am (X := Nat) [0] (fun i => [(3, .int .i64 (i : Int))]) (fun _ => []) (fun i => i <= s.size /\ ∀ j, j < i -> inR (bat s j) 32 126 = true) (fun i => s.size - i) 0 ⟨Nat.zero_le _, fun j h => absurd h (Nat.not_lt_zero _)⟩
 exact kp_; exact nw_
 ·exact .refl _
 rintro i ⟨hi, hall⟩
 try dsimp only
 by_cases hlt : i < s.size
 ·have hwi := aI (G := G) (bat s i) 32 126
  have hbd := sV s i
  cases hb : inR (bat s i) 32 126 with
  | false =>
    rw [hb] at hwi
    rw [wn hlt hb]
    repeat' (first | refine W_ ?_ | refine ac hG hst (hwi) ?_)
    exact r1_
  | true =>
    rw [hb] at hwi
    repeat' (first | refine W_ ?_ | refine ac hG hst (hwi) ?_)
    exact ah (i + 1) ⟨by omega, fun j hj => by
      rcases Nat.lt_or_ge j i with h | h
      ·exact hall j h
      ·obtain rfl : j = i := by omega
       exact hb⟩ (by omega) (.of _ nw_ od_ pk_)
 ·obtain rfl : i = s.size := by omega
  rw [yS hall]
  repeat' refine W_ ?_
  refine aA x_ rfl (.tmp _ _ rfl) (fun _ => ?_)
  exact aD (by rw [decide_eq_decide]; omega)
end
theorem mr (k n : Int) (t : ByteArray) (ht : t.size <= 1048576) : Ct Tryz.prog GL 240 [.agg [.int .i64 k, .int .i64 n, .str t]] (fun _ => .bool (hU k n t)) := by
 refine ak Tryz.func240 rfl Tryz.ntmps240 rfl rfl fun w0 _ hG => ?_
 have hst := cU
 have h1 := aI (G := GL) n 0 1
 have h2 := aI (G := GL) n (-999999999) 999999999
 have h3 := kL (G := GL) hst t ht
 have h4 := abC t ht
 rcases sv k with rfl | rfl | rfl | rfl | rfl | rfl | rfl | rfl | ⟨g0, g1, g2, g3, g4, g5, g6, g7⟩
 ·have e : hU 0 n t = (decide (n = 0) && decide (t = ⟨#[]⟩)) := rfl
  rw [e]
  repeat' (first | refine W_ ?_ | refine aF ?_ | refine g_ (fun hg => ?_) (fun hg => ?_))
  all_goals
    refine aA x_ rfl (.tmp _ _ rfl) (fun _ => ?_)
    exact aD (by simp [*])
 ·have e : hU 1 n t = (inR n 0 1 && decide (t = ⟨#[]⟩)) := rfl
  rw [e]
  generalize inR n 0 1 = b at h1 |-
  cases b
  all_goals
    repeat' (first | refine W_ ?_ | refine aF ?_ | refine ac hG hst (h1) ?_)
    refine aA x_ rfl (.tmp _ _ rfl) (fun _ => ?_)
    exact aD (by simp [*])
 ·have e : hU 2 n t = (inR n (-999999999) 999999999 && decide (t = ⟨#[]⟩)) := rfl
  rw [e]
  generalize inR n (-999999999) 999999999 = b at h2 |-
  cases b
  all_goals
    repeat' (first | refine W_ ?_ | refine aF ?_ | refine ac hG hst (h2) ?_)
    refine aA x_ rfl (.tmp _ _ rfl) (fun _ => ?_)
    exact aD (by simp [*])
 ·have e : hU 3 n t = (decide (n = 0) && ep t) := rfl
  rw [e]
  repeat' (first | refine W_ ?_ | refine aF ?_ | refine ac hG hst (h3) ?_ | refine g_ (fun hg => ?_) (fun hg => ?_))
  all_goals
    refine aA x_ rfl (.tmp _ _ rfl) (fun _ => ?_)
    exact aD (by simp [*])
 ·have e : hU 4 n t = (decide (n = 0) && bY t.data.toList) := rfl
  rw [e]
  repeat' (first | refine W_ ?_ | refine aF ?_ | refine ac hG hst (h4) ?_ | refine g_ (fun hg => ?_) (fun hg => ?_))
  all_goals
    refine aA x_ rfl (.tmp _ _ rfl) (fun _ => ?_)
    exact aD (by simp [*])
 ·have e : hU 5 n t = (decide (0 <= n) && decide (t = ⟨#[]⟩)) := rfl
  rw [e]
  repeat' (first | refine W_ ?_ | refine aF ?_ | refine g_ (fun hg => ?_) (fun hg => ?_))
  all_goals
    refine aA x_ rfl (.tmp _ _ rfl) (fun _ => ?_)
    exact aD (by simp [*])
 ·have e : hU 6 n t = (decide (0 <= n) && decide (t = ⟨#[]⟩)) := rfl
  rw [e]
  repeat' (first | refine W_ ?_ | refine aF ?_ | refine g_ (fun hg => ?_) (fun hg => ?_))
  all_goals
    refine aA x_ rfl (.tmp _ _ rfl) (fun _ => ?_)
    exact aD (by simp [*])
 ·have e : hU 7 n t = (decide (0 <= n) && decide (t = ⟨#[]⟩)) := rfl
  rw [e]
  repeat' (first | refine W_ ?_ | refine aF ?_ | refine g_ (fun hg => ?_) (fun hg => ?_))
  all_goals
    refine aA x_ rfl (.tmp _ _ rfl) (fun _ => ?_)
    exact aD (by simp [*])
 ·have e : hU k n t = false := by
    unfold hU
    rw [if_neg g0, if_neg g1, if_neg g2, if_neg g3, if_neg g4, if_neg (by omega)]
  rw [e]
  repeat' (first | refine W_ ?_ | refine aF ?_)
  exact r1_
theorem fc (k n : Int) (t : ByteArray) (ht : t.size <= 1048576) : Ct Tryz.prog GL 164 [.agg [.int .i64 k, .int .i64 n, .str t]] (fun _ => .bool (hU k n t)) := by
 refine ak Tryz.func164 rfl Tryz.ntmps164 rfl rfl fun w0 _ hG => ?_
 have hst := cU
 have h1 := aV (G := GL) n 0 1
 have h2 := aV (G := GL) n (-999999999) 999999999
 have h4 := abF t ht
 rcases sv k with rfl | rfl | rfl | rfl | rfl | rfl | rfl | rfl | ⟨g0, g1, g2, g3, g4, g5, g6, g7⟩
 ·have e : hU 0 n t = (decide (n = 0) && decide (t = ⟨#[]⟩)) := rfl
  rw [e]
  repeat' (first | refine W_ ?_ | refine aF ?_ | refine g_ (fun hg => ?_) (fun hg => ?_))
  all_goals
    refine aA x_ rfl (.tmp _ _ rfl) (fun _ => ?_)
    exact aD (by simp [*])
 ·have e : hU 1 n t = (inR n 0 1 && decide (t = ⟨#[]⟩)) := rfl
  rw [e]
  generalize inR n 0 1 = b at h1 |-
  cases b
  all_goals
    repeat' (first | refine W_ ?_ | refine aF ?_ | refine ac hG hst (h1) ?_)
    refine aA x_ rfl (.tmp _ _ rfl) (fun _ => ?_)
    exact aD (by simp [*])
 ·have e : hU 2 n t = (inR n (-999999999) 999999999 && decide (t = ⟨#[]⟩)) := rfl
  rw [e]
  generalize inR n (-999999999) 999999999 = b at h2 |-
  cases b
  all_goals
    repeat' (first | refine W_ ?_ | refine aF ?_ | refine ac hG hst (h2) ?_)
    refine aA x_ rfl (.tmp _ _ rfl) (fun _ => ?_)
    exact aD (by simp [*])
 ·have e : hU 3 n t = (decide (n = 0) && ep t) := rfl
  rw [e]
  by_cases hn : n = 0
  case neg =>
    have hn2 : n ≠ 0 := hn
    rw [decide_eq_false hn, Bool.false_and]
    repeat' (first | refine W_ ?_ | refine aF ?_)
    exact r1_
  subst hn
  have hn2 : ¬ ((0 : Int) ≠ 0) := fun h => h rfl
  rw [decide_eq_true rfl, Bool.true_and]
  by_cases hl : 200 < t.size
  ·rw [wm hl]
   repeat' (first | refine W_ ?_ | refine aF ?_)
   exact r1_
  repeat' (first | refine W_ ?_ | refine aF ?_)
  apply am (X := Nat) [1] (fun i => [(3, .int .i64 (i : Int))]) (fun _ => []) (fun i => i <= t.size /\ ∀ j, j < i -> inR (bat t j) 32 126 = true) (fun i => t.size - i) 0 ⟨Nat.zero_le _, fun j h => absurd h (Nat.not_lt_zero _)⟩
  exact kp_; exact nw_
  ·exact .refl _
  rintro i ⟨hi, hall⟩
  try dsimp only
  by_cases hlt : i < t.size
  ·have hbd := sV t i
   by_cases hlo : bat t i < 32
   ·rw [wn hlt (show inR (bat t i) 32 126 = false by simp only [inR, decide_eq_false_iff_not]; omega)]
    repeat' refine W_ ?_
    exact r1_
   by_cases hhi : bat t i > 126
   ·rw [wn hlt (show inR (bat t i) 32 126 = false by simp only [inR, decide_eq_false_iff_not]; omega)]
    repeat' refine W_ ?_
    exact r1_
   ·repeat' refine W_ ?_
    exact ah (i + 1) ⟨by omega, fun j hj => by
      rcases Nat.lt_or_ge j i with h | h
      ·exact hall j h
      ·obtain rfl : j = i := by omega
       simp only [inR, decide_eq_true_eq]; omega⟩ (by omega) (.of _ nw_ od_ pk_)
  ·obtain rfl : i = t.size := by omega
   rw [yS hall, decide_eq_true (by omega)]
   repeat' refine W_ ?_
   exact r1_
 ·have e : hU 4 n t = (decide (n = 0) && bY t.data.toList) := rfl
  rw [e]
  repeat' (first | refine W_ ?_ | refine aF ?_ | refine ac hG hst (h4) ?_ | refine g_ (fun hg => ?_) (fun hg => ?_))
  all_goals
    refine aA x_ rfl (.tmp _ _ rfl) (fun _ => ?_)
    exact aD (by simp [*])
 ·have e : hU 5 n t = (decide (0 <= n) && decide (t = ⟨#[]⟩)) := rfl
  rw [e]
  repeat' (first | refine W_ ?_ | refine aF ?_ | refine g_ (fun hg => ?_) (fun hg => ?_))
  all_goals
    refine aA x_ rfl (.tmp _ _ rfl) (fun _ => ?_)
    exact aD (by simp [*])
 ·have e : hU 6 n t = (decide (0 <= n) && decide (t = ⟨#[]⟩)) := rfl
  rw [e]
  repeat' (first | refine W_ ?_ | refine aF ?_ | refine g_ (fun hg => ?_) (fun hg => ?_))
  all_goals
    refine aA x_ rfl (.tmp _ _ rfl) (fun _ => ?_)
    exact aD (by simp [*])
 ·have e : hU 7 n t = (decide (0 <= n) && decide (t = ⟨#[]⟩)) := rfl
  rw [e]
  repeat' (first | refine W_ ?_ | refine aF ?_ | refine g_ (fun hg => ?_) (fun hg => ?_))
  all_goals
    refine aA x_ rfl (.tmp _ _ rfl) (fun _ => ?_)
    exact aD (by simp [*])
 ·have e : hU k n t = false := by
    unfold hU
    rw [if_neg g0, if_neg g1, if_neg g2, if_neg g3, if_neg g4, if_neg (by omega)]
  rw [e]
  repeat' (first | refine W_ ?_ | refine aF ?_)
  exact r1_
section
variable {G : World -> Prop}
theorem pj (hst : ay G) (lo : Nat) (ccl cen : TV) (cs : List au) (mn : Int) (hne : 1 <= cs.length) (hcs : cs.length <= 1048576 /\ ∀ y ∈ cs, au.small 1048576 y) :
   Ct Tryz.prog G 137 [.agg [ccl, .sl lo 4 (cs.map (au.tw lo)), cen, .int .i64 mn]] (yW cs) := by
 refine ak Tryz.func137 rfl Tryz.ntmps137 rfl rfl fun w0 _ hG => ?_
 have hl2 := au.len lo cs
 have hcl := hcs.1
 have hrep := fun lo => pN (G := G) lo cs.length hne hcl
 repeat' (first | refine H_ 2 ?_ | refine aF ?_ | refine dl ?_ | ((with_reducible apply az); rfl; kernel_rfl; (repeat (first | exact aw.nil | ((with_reducible apply aw.cons); rfl))); exact hG; exact hrep _; exact .nil _; intro y _; obtain ⟨ss, bb⟩ := y; refine eu ?_))
 refine ⟨?_⟩
 generalize ss = sd; generalize bb = bd
 have hst0 : eK cs 0 (List.replicate cs.length (-1)) = dM cs := rfl
 have hin0 := fT cs.length
 unfold yW
 generalize dM cs = R at hst0
 generalize List.replicate cs.length (-1 : Int) = o0 at hst0 hin0
 repeat' refine W_ ?_
 apply am (X := Nat × List Int) [1, 4, 17, 18] (fun x => [(19, .int .i64 (x.1 : Int))]) (fun x => [(sd, bd, .row 1 (aM x.2))]) (fun x => x.1 <= cs.length /\ ch cs.length x.2 /\ eK cs x.1 x.2 = R) (fun x => cs.length - x.1) (0, o0) ⟨Nat.zero_le _, hin0, hst0⟩
 exact kp_; exact nw_
 ·exact .refl _
 clear hin0 hst0
 rintro ⟨i, o⟩ ⟨hi, hin, hR⟩
 dsimp only at hi hin hR |-
 have hol : (aM o).length = cs.length := by rw [ap]; exact hin.1
 by_cases hlt : i < cs.length
 ·have hra := bA (lo := lo) hlt
  have hsm := hcs.2 _ (List.getElem_mem hlt)
  rw [ke hlt] at hR
  generalize cs[i] = c at hra hsm hR
  obtain ⟨cb, cp, csl, is⟩ := c
  dsimp only at hra hR
  have hil := ai.len lo is
  have hisl : is.length <= 1048576 := hsm.1
  repeat' (first | refine W_ ?_ | (refine aj ?_; intro ss bb) | refine ad ?_)
  apply am (X := Nat × List Int) [1, 4, 5, 17, 18, 19, 25, 26] (fun x => [(27, .int .i64 (x.1 : Int))]) (fun x => [(sd, bd, .row 1 (aM x.2))]) (fun x => x.1 <= is.length /\ ch cs.length x.2 /\ eH cs i (is.drop x.1) x.2 = R) (fun x => is.length - x.1) (0, o) ⟨Nat.zero_le _, hin, hR⟩
  exact kp_; exact nw_
  ·exact pk_
  clear hin hR hol
  rintro ⟨k, o⟩ ⟨hk, hin, hR⟩
  dsimp only at hk hin hR |-
  have hol : (aM o).length = cs.length := by rw [ap]; exact hin.1
  by_cases hlk : k < is.length
  ·have hrk := gQ (lo := lo) hlk
   rw [ka hlk] at hR
   generalize is[k] = x at hrk hR
   obtain ⟨op, a, b, t⟩ := x
   unfold wt at hR
   dsimp only at hrk hR
   by_cases h15 : op = 15
   ·rw [if_pos h15] at hR
    have h15' : ¬ op ≠ 15 := fun h => h h15
    by_cases hin2 : 0 <= a /\ a <= (i : Int) - 1
    ·have cin := aI (G := G) a 0 ((i - 1 : Nat) : Int)
     rw [qY (by omega)] at cin
     obtain ⟨q, rfl⟩ : ∃ q : Nat, a = q := ⟨a.toNat, by omega⟩
     have hql : q < o.length := by rw [hin.1]; omega
     have hrq := ef hql
     have hqc : q < cs.length := by omega
     have hrc := bA (lo := lo) hqc
     have hblk := fun o' k' hp hinv => k7 (cs := cs) (i := i) (k := k') (is := is) (o := o') (a := q) hlt hinv hqc hp
     generalize cs[q] = y at hrc hblk
     obtain ⟨yb, yp, ysl, yi⟩ := y
     dsimp only at hrc hblk
     by_cases hg : 0 <= gd o (q : Int)
     ·rw [if_neg fun h => h.2 hg] at hR
      cases yb
      all_goals
        repeat' (first | refine W_ ?_ | (refine aj ?_; intro ss bb) | refine ad ?_ | refine ac hG hst (cin) ?_)
        refine dB x_ rfl (.tmp _ _ rfl) (.tmp _ _ rfl) (fun _ => ?_) (fun _ => ?_)
        ·exact fH hR.symm
        ·exact dS hR.symm
     ·rw [if_pos ⟨hin2, hg⟩, Int.toNat_natCast] at hR
      dsimp only at hR
      have hset := oB o q (i : Int)
      have hin3 := (kp (n := cs.length) (i := i) (x := ⟨15, q, b, t⟩) (o := o) (o' := o.set q (i : Int)) hlt (by unfold wt; rw [if_pos rfl, if_pos ⟨hin2, hg⟩, Int.toNat_natCast]) hin).1
      cases yb
      case false =>
        have hno := hblk (o.set q (i : Int)) (k + 1) rfl hin3 (by rw [i9 hql]; omega)
        rw [hR] at hno
        repeat' (first | refine W_ ?_ | (refine aj ?_; intro ss bb) | refine ad ?_ | refine ac hG hst (cin) ?_)
        refine dB x_ rfl (.tmp _ _ rfl) (.tmp _ _ rfl) (fun _ => ?_) (fun _ => ?_)
        ·exact fH hno
        ·exact dS hno
      repeat' (first | refine W_ ?_ | (refine aj ?_; intro ss bb) | refine ad ?_ | refine ac hG hst (cin) ?_ | refine bE ?_)
      rw [hset]
      refine ah (k + 1, o.set q (i : Int)) ⟨by dsimp only; omega, hin3, hR⟩ (by dsimp only; omega) (.of _ nw_ od_ pk_)
    ·have cin := aI (G := G) a 0 ((i : Int) - 1)
     have cin' := aI (G := G) a 0 ((i - 1 : Nat) : Int)
     rw [yu hin2] at cin
     rw [if_neg fun h => hin2 h.1] at hR
     repeat' (first | refine W_ ?_ | (refine aj ?_; intro ss bb) | refine ad ?_ | refine ac hG hst (cin) ?_)
     refine dB x_ rfl (.tmp _ _ rfl) (.tmp _ _ rfl) (fun _ => ?_) (fun _ => ?_)
     ·exact fH hR.symm
     ·exact dS hR.symm
   ·rw [if_neg h15] at hR
    dsimp only at hR
    repeat' (first | refine W_ ?_ | (refine aj ?_; intro ss bb) | refine ad ?_)
    refine ah (k + 1, o) ⟨by dsimp only; omega, hin, hR⟩ (by dsimp only; omega) (.of _ nw_ od_ pk_)
  ·rw [lU hlk] at hR
   repeat' refine W_ ?_
   refine ah (i + 1, o) ⟨by dsimp only; omega, hin, hR⟩ (by dsimp only; omega) (.of _ nw_ od_ pk_)
 ·rw [lC hlt] at hR
  repeat' refine W_ ?_
  apply am (X := Nat) [1, 4, 66, 67] (fun j => [(68, .int .i64 (j : Int))]) (fun _ => [(sd, bd, .row 1 (aM o))]) (fun j => j <= cs.length /\ ∀ q, q < j -> ∀ h : q < cs.length, cs[q].block = decide (0 <= gd o (q : Int))) (fun j => cs.length - j) 0 ⟨Nat.zero_le _, by omega⟩
  exact kp_; exact nw_
  ·exact .refl _
  rintro j ⟨hj, hja⟩
  try dsimp only
  by_cases hlj : j < cs.length
  ·have hra := bA (lo := lo) hlj
   have hrj := ef (o := o) (j := j) (by rw [hin.1]; exact hlj)
   have hbad := mQ (o := o) hlj
   have hnx : cs[j].block = decide (0 <= gd o (j : Int)) -> ∀ q, q < j + 1 -> ∀ h : q < cs.length, cs[q].block = decide (0 <= gd o (q : Int)) := fun ho => bI hja fun _ => ho
   generalize cs[j] = c at hra hbad hnx
   obtain ⟨cb, cp, csl, is⟩ := c
   dsimp only at hra hbad hnx
   generalize gd o (j : Int) = v at hrj hbad hnx
   by_cases hb : cb = decide (0 <= v)
   ·repeat' (first | refine V_ ?_ | (refine aj ?_; intro ss bb) | refine ad ?_ | refine c_ (fun hc => ?_) (fun hc => ?_))
    all_goals first
      | exact ah (j + 1) ⟨by omega, hnx hb⟩ (by omega) (.of _ nw_ od_ pk_)
      | (exfalso; simp_all; done)
   ·rw [hbad hb] at hR
    repeat' (first | refine V_ ?_ | (refine aj ?_; intro ss bb) | refine ad ?_ | refine c_ (fun hc => ?_) (fun hc => ?_))
    all_goals first
      | (exfalso; simp_all; done)
      | (refine dB x_ rfl (.tmp _ _ rfl) (.tmp _ _ rfl) (fun _ => ?_) (fun _ => ?_)
         ·exact fH hR.symm
         ·exact dS hR.symm)
  ·rw [lg fun q hq => hja q (by omega)] at hR
   repeat' refine W_ ?_
   refine dB x_ rfl (.tmp _ _ rfl) (.tmp _ _ rfl) (fun _ => ?_) (fun _ => ?_)
   ·exact sW hR.symm hin.1 List.mem_cons_self
   ·exact nh hR.symm
end
end Go.Proofs.YtiihihgjiklnoaaGreatDoor
