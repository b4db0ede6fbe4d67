/- Part 21 of the proof: the texts ImA, IvK. -/
import Derived.Test.YtigipcbnfeoliaaGreatDoorFi3
import Derived.Test.YtigipcbnfeoliaaGreatDoorFi15
import Derived.Test.YtigipcbnfeoliaaGreatDoorFi13
set_option linter.all false
set_option maxHeartbeats 4000000
set_option maxRecDepth 20000
namespace Go.Proofs.YtigipcbnfeoliaaGreatDoor
open Go Go.RowKit
def fZ (s : ByteArray) : Bool := (List.range s.size).all (fun j => inR (bat s j) 32 126) && decide (s.size <= 200)
def kj (k n : Int) (t : ByteArray) : Bool :=
 if k = 0 then decide (n = 0) && decide (t = ⟨#[]⟩)
 else if k = 1 then inR n 0 1 && decide (t = ⟨#[]⟩)
 else if k = 2 then inR n (-999999999) 999999999 && decide (t = ⟨#[]⟩)
 else if k = 3 then decide (n = 0) && fZ t
 else if k = 4 then decide (n = 0) && cy t.data.toList
 else if k = 5 \/ k = 6 \/ k = 7 then decide (0 <= n) && decide (t = ⟨#[]⟩)
 else false
theorem xe (k : Int) : k = 0 \/ k = 1 \/ k = 2 \/ k = 3 \/ k = 4 \/ k = 5 \/ k = 6 \/ k = 7 \/ (¬ k = 0 /\ ¬ k = 1 /\ ¬ k = 2 /\ ¬ k = 3 /\ ¬ k = 4 /\ ¬ k = 5 /\ ¬ k = 6 /\ ¬ k = 7) := by omega
theorem acU {s : ByteArray} (h : ∀ j, j < s.size -> inR (bat s j) 32 126 = true) : fZ s = decide (s.size <= 200) := by
 unfold fZ
 rw [List.all_eq_true.2 fun j hj => h j (List.mem_range.1 hj), Bool.true_and]
theorem aaX {s : ByteArray} {j : Nat} (hj : j < s.size) (h : inR (bat s j) 32 126 = false) : fZ s = false := by
 unfold fZ
 have : (List.range s.size).all (fun j => inR (bat s j) 32 126) = false := by
   rw [Bool.eq_false_iff]
   intro h2
   have := List.all_eq_true.1 h2 j (List.mem_range.2 hj)
   rw [h] at this; cases this
 rw [this, Bool.false_and]
theorem aap {s : ByteArray} (h : 200 < s.size) : fZ s = false := by
 unfold fZ
 rw [decide_eq_false (by omega), Bool.and_false]
section
variable {G : World -> Prop}
theorem nW (hst : aC G) (s : ByteArray) (hs : s.size <= 1048576) : Ct Tryz.prog G 155 [.str s] (fun _ => .bool (fZ s)) := by
 refine aq Tryz.func155 rfl Tryz.ntmps155 rfl rfl fun w0 _ hG => ?_
 repeat' refine W_ ?_
 apply ai (X := Nat) [0] (fun i => [(3, .int .i64 (i : Int))]) (fun _ => []) (fun i => i <= s.size /\ ∀ j, j < i -> inR (bat s j) 32 126 = true) (fun i => s.size - i) 0 ⟨Nat.zero_le _, fun j h => absurd h (Nat.not_lt_zero _)⟩
 exact kp_; exact nw_
 ·exact .refl _
 rintro i ⟨hi, hall⟩
 try dsimp only
 by_cases hlt : i < s.size
 ·have hwi := aK (G := G) (bat s i) 32 126
  have hbd := wO s i
  cases hb : inR (bat s i) 32 126 with
  | false =>
    rw [hb] at hwi
    rw [aaX hlt hb]
    repeat' (first | refine W_ ?_ | refine ac hG hst (hwi) ?_)
    exact r1_
  | true =>
    rw [hb] at hwi
    repeat' (first | refine W_ ?_ | refine ac hG hst (hwi) ?_)
    exact ah (i + 1) ⟨by omega, fun j hj => by
      rcases Nat.lt_or_ge j i with h | h
      ·exact hall j h
      ·obtain rfl : j = i := by omega
       exact hb⟩ (by omega) (.of _ nw_ od_ pk_)
 ·obtain rfl : i = s.size := by omega
  rw [acU hall]
  repeat' refine W_ ?_
  refine aD x_ rfl (.tmp _ _ rfl) (fun _ => ?_)
  exact aI (by rw [decide_eq_decide]; omega)
end
theorem px (k n : Int) (t : ByteArray) (ht : t.size <= 1048576) : Ct Tryz.prog GL 223 [.agg [.int .i64 k, .int .i64 n, .str t]] (fun _ => .bool (kj k n t)) := by
 refine aq Tryz.func223 rfl Tryz.ntmps223 rfl rfl fun w0 _ hG => ?_
 have hst := eg
 have h1 := aK (G := GL) n 0 1
 have h2 := aK (G := GL) n (-999999999) 999999999
 have h3 := nW (G := GL) hst t ht
 have h4 := afc t ht
 rcases xe k with rfl | rfl | rfl | rfl | rfl | rfl | rfl | rfl | ⟨g0, g1, g2, g3, g4, g5, g6, g7⟩
 ·have e : kj 0 n t = (decide (n = 0) && decide (t = ⟨#[]⟩)) := rfl
  rw [e]
  repeat' (first | refine W_ ?_ | refine aJ ?_ | refine g_ (fun hg => ?_) (fun hg => ?_))
  all_goals
    refine aD x_ rfl (.tmp _ _ rfl) (fun _ => ?_)
    exact aI (by simp [*])
 ·have e : kj 1 n t = (inR n 0 1 && decide (t = ⟨#[]⟩)) := rfl
  rw [e]
  generalize inR n 0 1 = b at h1 |-
  cases b
  all_goals
    repeat' (first | refine W_ ?_ | refine aJ ?_ | refine ac hG hst (h1) ?_)
    refine aD x_ rfl (.tmp _ _ rfl) (fun _ => ?_)
    exact aI (by simp [*])
 ·have e : kj 2 n t = (inR n (-999999999) 999999999 && decide (t = ⟨#[]⟩)) := rfl
  rw [e]
  generalize inR n (-999999999) 999999999 = b at h2 |-
  cases b
  all_goals
    repeat' (first | refine W_ ?_ | refine aJ ?_ | refine ac hG hst (h2) ?_)
    refine aD x_ rfl (.tmp _ _ rfl) (fun _ => ?_)
    exact aI (by simp [*])
 ·have e : kj 3 n t = (decide (n = 0) && fZ t) := rfl
  rw [e]
  repeat' (first | refine W_ ?_ | refine aJ ?_ | refine ac hG hst (h3) ?_ | refine g_ (fun hg => ?_) (fun hg => ?_))
  all_goals
    refine aD x_ rfl (.tmp _ _ rfl) (fun _ => ?_)
    exact aI (by simp [*])
 ·have e : kj 4 n t = (decide (n = 0) && cy t.data.toList) := rfl
  rw [e]
  repeat' (first | refine W_ ?_ | refine aJ ?_ | refine ac hG hst (h4) ?_ | refine g_ (fun hg => ?_) (fun hg => ?_))
  all_goals
    refine aD x_ rfl (.tmp _ _ rfl) (fun _ => ?_)
    exact aI (by simp [*])
 ·have e : kj 5 n t = (decide (0 <= n) && decide (t = ⟨#[]⟩)) := rfl
  rw [e]
  repeat' (first | refine W_ ?_ | refine aJ ?_ | refine g_ (fun hg => ?_) (fun hg => ?_))
  all_goals
    refine aD x_ rfl (.tmp _ _ rfl) (fun _ => ?_)
    exact aI (by simp [*])
 ·have e : kj 6 n t = (decide (0 <= n) && decide (t = ⟨#[]⟩)) := rfl
  rw [e]
  repeat' (first | refine W_ ?_ | refine aJ ?_ | refine g_ (fun hg => ?_) (fun hg => ?_))
  all_goals
    refine aD x_ rfl (.tmp _ _ rfl) (fun _ => ?_)
    exact aI (by simp [*])
 ·have e : kj 7 n t = (decide (0 <= n) && decide (t = ⟨#[]⟩)) := rfl
  rw [e]
  repeat' (first | refine W_ ?_ | refine aJ ?_ | refine g_ (fun hg => ?_) (fun hg => ?_))
  all_goals
    refine aD x_ rfl (.tmp _ _ rfl) (fun _ => ?_)
    exact aI (by simp [*])
 ·have e : kj k n t = false := by
    unfold kj
    rw [if_neg g0, if_neg g1, if_neg g2, if_neg g3, if_neg g4, if_neg (by omega)]
  rw [e]
  repeat' (first | refine W_ ?_ | refine aJ ?_)
  exact r1_
theorem gp (k n : Int) (t : ByteArray) (ht : t.size <= 1048576) : Ct Tryz.prog GL 105 [.agg [.int .i64 k, .int .i64 n, .str t]] (fun _ => .bool (kj k n t)) := by
 refine aq Tryz.func105 rfl Tryz.ntmps105 rfl rfl fun w0 _ hG => ?_
 have hst := eg
 have h1 := bm (G := GL) n 0 1
 have h2 := bm (G := GL) n (-999999999) 999999999
 have h4 := afv t ht
 rcases xe k with rfl | rfl | rfl | rfl | rfl | rfl | rfl | rfl | ⟨g0, g1, g2, g3, g4, g5, g6, g7⟩
 ·have e : kj 0 n t = (decide (n = 0) && decide (t = ⟨#[]⟩)) := rfl
  rw [e]
  repeat' (first | refine W_ ?_ | refine aJ ?_ | refine g_ (fun hg => ?_) (fun hg => ?_))
  all_goals
    refine aD x_ rfl (.tmp _ _ rfl) (fun _ => ?_)
    exact aI (by simp [*])
 ·have e : kj 1 n t = (inR n 0 1 && decide (t = ⟨#[]⟩)) := rfl
  rw [e]
  generalize inR n 0 1 = b at h1 |-
  cases b
  all_goals
    repeat' (first | refine W_ ?_ | refine aJ ?_ | refine ac hG hst (h1) ?_)
    refine aD x_ rfl (.tmp _ _ rfl) (fun _ => ?_)
    exact aI (by simp [*])
 ·have e : kj 2 n t = (inR n (-999999999) 999999999 && decide (t = ⟨#[]⟩)) := rfl
  rw [e]
  generalize inR n (-999999999) 999999999 = b at h2 |-
  cases b
  all_goals
    repeat' (first | refine W_ ?_ | refine aJ ?_ | refine ac hG hst (h2) ?_)
    refine aD x_ rfl (.tmp _ _ rfl) (fun _ => ?_)
    exact aI (by simp [*])
 ·have e : kj 3 n t = (decide (n = 0) && fZ t) := rfl
  rw [e]
  by_cases hn : n = 0
  case neg =>
    have hn2 : n ≠ 0 := hn
    rw [decide_eq_false hn, Bool.false_and]
    repeat' (first | refine W_ ?_ | refine aJ ?_)
    exact r1_
  subst hn
  have hn2 : ¬ ((0 : Int) ≠ 0) := fun h => h rfl
  rw [decide_eq_true rfl, Bool.true_and]
  by_cases hl : 200 < t.size
  ·rw [aap hl]
   repeat' (first | refine W_ ?_ | refine aJ ?_)
   exact r1_
  repeat' (first | refine W_ ?_ | refine aJ ?_)
  apply ai (X := Nat) [1] (fun i => [(3, .int .i64 (i : Int))]) (fun _ => []) (fun i => i <= t.size /\ ∀ j, j < i -> inR (bat t j) 32 126 = true) (fun i => t.size - i) 0 ⟨Nat.zero_le _, fun j h => absurd h (Nat.not_lt_zero _)⟩
  exact kp_; exact nw_
  ·exact .refl _
  rintro i ⟨hi, hall⟩
  try dsimp only
  by_cases hlt : i < t.size
  ·have hbd := wO t i
   by_cases hlo : bat t i < 32
   ·rw [aaX hlt (show inR (bat t i) 32 126 = false by simp only [inR, decide_eq_false_iff_not]; omega)]
    repeat' refine W_ ?_
    exact r1_
   by_cases hhi : bat t i > 126
   ·rw [aaX hlt (show inR (bat t i) 32 126 = false by simp only [inR, decide_eq_false_iff_not]; omega)]
    repeat' refine W_ ?_
    exact r1_
   ·repeat' refine W_ ?_
    exact ah (i + 1) ⟨by omega, fun j hj => by
      rcases Nat.lt_or_ge j i with h | h
      ·exact hall j h
      ·obtain rfl : j = i := by omega
       simp only [inR, decide_eq_true_eq]; omega⟩ (by omega) (.of _ nw_ od_ pk_)
  ·obtain rfl : i = t.size := by omega
   rw [acU hall, decide_eq_true (by omega)]
   repeat' refine W_ ?_
   exact r1_
 ·have e : kj 4 n t = (decide (n = 0) && cy t.data.toList) := rfl
  rw [e]
  repeat' (first | refine W_ ?_ | refine aJ ?_ | refine ac hG hst (h4) ?_ | refine g_ (fun hg => ?_) (fun hg => ?_))
  all_goals
    refine aD x_ rfl (.tmp _ _ rfl) (fun _ => ?_)
    exact aI (by simp [*])
 ·have e : kj 5 n t = (decide (0 <= n) && decide (t = ⟨#[]⟩)) := rfl
  rw [e]
  repeat' (first | refine W_ ?_ | refine aJ ?_ | refine g_ (fun hg => ?_) (fun hg => ?_))
  all_goals
    refine aD x_ rfl (.tmp _ _ rfl) (fun _ => ?_)
    exact aI (by simp [*])
 ·have e : kj 6 n t = (decide (0 <= n) && decide (t = ⟨#[]⟩)) := rfl
  rw [e]
  repeat' (first | refine W_ ?_ | refine aJ ?_ | refine g_ (fun hg => ?_) (fun hg => ?_))
  all_goals
    refine aD x_ rfl (.tmp _ _ rfl) (fun _ => ?_)
    exact aI (by simp [*])
 ·have e : kj 7 n t = (decide (0 <= n) && decide (t = ⟨#[]⟩)) := rfl
  rw [e]
  repeat' (first | refine W_ ?_ | refine aJ ?_ | refine g_ (fun hg => ?_) (fun hg => ?_))
  all_goals
    refine aD x_ rfl (.tmp _ _ rfl) (fun _ => ?_)
    exact aI (by simp [*])
 ·have e : kj k n t = false := by
    unfold kj
    rw [if_neg g0, if_neg g1, if_neg g2, if_neg g3, if_neg g4, if_neg (by omega)]
  rw [e]
  repeat' (first | refine W_ ?_ | refine aJ ?_)
  exact r1_
section
variable {G : World -> Prop}
theorem tT (hst : aC G) (lo : Nat) (ccl cen : TV) (cs : List aw) (mn : Int) (hne : 1 <= cs.length) (hcs : cs.length <= 1048576 /\ ∀ y ∈ cs, aw.small 1048576 y) :
   Ct Tryz.prog G 156 [.agg [ccl, .sl lo 4 (cs.map (aw.tw lo)), cen, .int .i64 mn]] (ac4 cs) := by
 refine aq Tryz.func156 rfl Tryz.ntmps156 rfl rfl fun w0 _ hG => ?_
 have hl2 := aw.len lo cs
 have hcl := hcs.1
 have hrep := fun lo => tP (G := G) lo cs.length hne hcl
 repeat' (first | refine H_ 2 ?_ | refine aJ ?_ | refine ch ?_ | ((with_reducible apply aE); rfl; kernel_rfl; (repeat (first | exact ay.nil | ((with_reducible apply ay.cons); rfl))); exact hG; exact hrep _; exact .nil _; intro y _; obtain ⟨ss, bb⟩ := y; refine bF ?_))
 refine ⟨?_⟩
 generalize ss = sd; generalize bb = bd
 have hst0 : fI cs 0 (List.replicate cs.length (-1)) = eL cs := rfl
 have hin0 := iB cs.length
 unfold ac4
 generalize eL cs = R at hst0
 generalize List.replicate cs.length (-1 : Int) = o0 at hst0 hin0
 repeat' refine W_ ?_
 apply ai (X := Nat × List Int) [1, 4, 17, 18] (fun x => [(19, .int .i64 (x.1 : Int))]) (fun x => [(sd, bd, .row 1 (aR x.2))]) (fun x => x.1 <= cs.length /\ cL cs.length x.2 /\ fI cs x.1 x.2 = R) (fun x => cs.length - x.1) (0, o0) ⟨Nat.zero_le _, hin0, hst0⟩
 exact kp_; exact nw_
 ·exact .refl _
 clear hin0 hst0
 rintro ⟨i, o⟩ ⟨hi, hin, hR⟩
 dsimp only at hi hin hR |-
 have hol : (aR o).length = cs.length := by rw [ar]; exact hin.1
 by_cases hlt : i < cs.length
 ·have hra := bP (lo := lo) hlt
  have hsm := hcs.2 _ (List.getElem_mem hlt)
  rw [mF hlt] at hR
  generalize cs[i] = c at hra hsm hR
  obtain ⟨cb, cp, csl, is⟩ := c
  dsimp only at hra hR
  have hil := ag.len lo is
  have hisl : is.length <= 1048576 := hsm.1
  repeat' (first | refine W_ ?_ | (refine ak ?_; intro ss bb) | refine ae ?_)
  apply ai (X := Nat × List Int) [1, 4, 5, 17, 18, 19, 25, 26] (fun x => [(27, .int .i64 (x.1 : Int))]) (fun x => [(sd, bd, .row 1 (aR x.2))]) (fun x => x.1 <= is.length /\ cL cs.length x.2 /\ fS cs i (is.drop x.1) x.2 = R) (fun x => is.length - x.1) (0, o) ⟨Nat.zero_le _, hin, hR⟩
  exact kp_; exact nw_
  ·exact pk_
  clear hin hR hol
  rintro ⟨k, o⟩ ⟨hk, hin, hR⟩
  dsimp only at hk hin hR |-
  have hol : (aR o).length = cs.length := by rw [ar]; exact hin.1
  by_cases hlk : k < is.length
  ·have hrk := ju (lo := lo) hlk
   rw [mJ hlk] at hR
   generalize is[k] = x at hrk hR
   obtain ⟨op, a, b, t⟩ := x
   unfold aaB at hR
   dsimp only at hrk hR
   by_cases h15 : op = 15
   ·rw [if_pos h15] at hR
    have h15' : ¬ op ≠ 15 := fun h => h h15
    by_cases hin2 : 0 <= a /\ a <= (i : Int) - 1
    ·have cin := aK (G := G) a 0 ((i - 1 : Nat) : Int)
     rw [ti (by omega)] at cin
     obtain ⟨q, rfl⟩ : ∃ q : Nat, a = q := ⟨a.toNat, by omega⟩
     have hql : q < o.length := by rw [hin.1]; omega
     have hrq := fo hql
     have hqc : q < cs.length := by omega
     have hrc := bP (lo := lo) hqc
     have hblk := fun o' k' hp hinv => n9 (cs := cs) (i := i) (k := k') (is := is) (o := o') (a := q) hlt hinv hqc hp
     generalize cs[q] = y at hrc hblk
     obtain ⟨yb, yp, ysl, yi⟩ := y
     dsimp only at hrc hblk
     by_cases hg : 0 <= gd o (q : Int)
     ·rw [if_neg fun h => h.2 hg] at hR
      cases yb
      all_goals
        repeat' (first | refine W_ ?_ | (refine ak ?_; intro ss bb) | refine ae ?_ | refine ac hG hst (cin) ?_)
        refine ei x_ rfl (.tmp _ _ rfl) (.tmp _ _ rfl) (fun _ => ?_) (fun _ => ?_)
        ·exact gX hR.symm
        ·exact eM hR.symm
     ·rw [if_pos ⟨hin2, hg⟩, Int.toNat_natCast] at hR
      dsimp only at hR
      have hset := rZ o q (i : Int)
      have hin3 := (np (n := cs.length) (i := i) (x := ⟨15, q, b, t⟩) (o := o) (o' := o.set q (i : Int)) hlt (by unfold aaB; rw [if_pos rfl, if_pos ⟨hin2, hg⟩, Int.toNat_natCast]) hin).1
      cases yb
      case false =>
        have hno := hblk (o.set q (i : Int)) (k + 1) rfl hin3 (by rw [lA hql]; omega)
        rw [hR] at hno
        repeat' (first | refine W_ ?_ | (refine ak ?_; intro ss bb) | refine ae ?_ | refine ac hG hst (cin) ?_)
        refine ei x_ rfl (.tmp _ _ rfl) (.tmp _ _ rfl) (fun _ => ?_) (fun _ => ?_)
        ·exact gX hno
        ·exact eM hno
      repeat' (first | refine W_ ?_ | (refine ak ?_; intro ss bb) | refine ae ?_ | refine ac hG hst (cin) ?_ | refine bJ ?_)
      rw [hset]
      refine ah (k + 1, o.set q (i : Int)) ⟨by dsimp only; omega, hin3, hR⟩ (by dsimp only; omega) (.of _ nw_ od_ pk_)
    ·have cin := aK (G := G) a 0 ((i : Int) - 1)
     have cin' := aK (G := G) a 0 ((i - 1 : Nat) : Int)
     rw [abb hin2] at cin
     rw [if_neg fun h => hin2 h.1] at hR
     repeat' (first | refine W_ ?_ | (refine ak ?_; intro ss bb) | refine ae ?_ | refine ac hG hst (cin) ?_)
     refine ei x_ rfl (.tmp _ _ rfl) (.tmp _ _ rfl) (fun _ => ?_) (fun _ => ?_)
     ·exact gX hR.symm
     ·exact eM hR.symm
   ·rw [if_neg h15] at hR
    dsimp only at hR
    repeat' (first | refine W_ ?_ | (refine ak ?_; intro ss bb) | refine ae ?_)
    refine ah (k + 1, o) ⟨by dsimp only; omega, hin, hR⟩ (by dsimp only; omega) (.of _ nw_ od_ pk_)
  ·rw [om hlk] at hR
   repeat' refine W_ ?_
   refine ah (i + 1, o) ⟨by dsimp only; omega, hin, hR⟩ (by dsimp only; omega) (.of _ nw_ od_ pk_)
 ·rw [ot hlt] at hR
  repeat' refine W_ ?_
  apply ai (X := Nat) [1, 4, 66, 67] (fun j => [(68, .int .i64 (j : Int))]) (fun _ => [(sd, bd, .row 1 (aR o))]) (fun j => j <= cs.length /\ ∀ q, q < j -> ∀ h : q < cs.length, cs[q].block = decide (0 <= gd o (q : Int))) (fun j => cs.length - j) 0 ⟨Nat.zero_le _, by omega⟩
  exact kp_; exact nw_
  ·exact .refl _
  rintro j ⟨hj, hja⟩
  try dsimp only
  by_cases hlj : j < cs.length
  ·have hra := bP (lo := lo) hlj
   have hrj := fo (o := o) (j := j) (by rw [hin.1]; exact hlj)
   have hbad := q7 (o := o) hlj
   have hnx : cs[j].block = decide (0 <= gd o (j : Int)) -> ∀ q, q < j + 1 -> ∀ h : q < cs.length, cs[q].block = decide (0 <= gd o (q : Int)) := fun ho => ca hja fun _ => ho
   generalize cs[j] = c at hra hbad hnx
   obtain ⟨cb, cp, csl, is⟩ := c
   dsimp only at hra hbad hnx
   generalize gd o (j : Int) = v at hrj hbad hnx
   by_cases hb : cb = decide (0 <= v)
   ·repeat' (first | refine V_ ?_ | (refine ak ?_; intro ss bb) | refine ae ?_ | refine c_ (fun hc => ?_) (fun hc => ?_))
    all_goals first
      | exact ah (j + 1) ⟨by omega, hnx hb⟩ (by omega) (.of _ nw_ od_ pk_)
      | (exfalso; simp_all; done)
   ·rw [hbad hb] at hR
    repeat' (first | refine V_ ?_ | (refine ak ?_; intro ss bb) | refine ae ?_ | refine c_ (fun hc => ?_) (fun hc => ?_))
    all_goals first
      | (exfalso; simp_all; done)
      | (refine ei x_ rfl (.tmp _ _ rfl) (.tmp _ _ rfl) (fun _ => ?_) (fun _ => ?_)
         ·exact gX hR.symm
         ·exact eM hR.symm)
  ·rw [oo fun q hq => hja q (by omega)] at hR
   repeat' refine W_ ?_
   refine ei x_ rfl (.tmp _ _ rfl) (.tmp _ _ rfl) (fun _ => ?_) (fun _ => ?_)
   ·exact xd hR.symm hin.1 List.mem_cons_self
   ·exact qO hR.symm
end
end Go.Proofs.YtigipcbnfeoliaaGreatDoor
