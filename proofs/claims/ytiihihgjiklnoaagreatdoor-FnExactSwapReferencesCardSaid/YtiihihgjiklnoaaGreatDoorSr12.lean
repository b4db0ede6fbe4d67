/- Part 12 of the proof: the texts IvB, IvC, IvD, IvE, IvP, IvF, IvH. -/
import Derived.Test.YtiihihgjiklnoaaGreatDoorSr3
import Derived.Test.YtiihihgjiklnoaaGreatDoorSr8
import Derived.Test.YtiihihgjiklnoaaGreatDoorSr7
import Derived.Test.YtiihihgjiklnoaaGreatDoorSr4
set_option linter.all false
set_option maxHeartbeats 4000000
set_option maxRecDepth 20000
namespace Go.Proofs.YtiihihgjiklnoaaGreatDoor
open Go Go.RowKit
theorem qU {i : Nat} {x : aa} (hx : bK[i]? = some x) : ((i = 0 -> x.parent = -1) /\ (i = 2 -> x.parent = 1) /\ (i = 3 -> x.parent = 2) /\ (i = 4 -> x.parent = 2) /\ (i ≠ 0 -> i ≠ 2 -> i ≠ 3 -> i ≠ 4 -> x.parent = 0)) /\ (i < 16) := by
 have hi : i < 16 := by
   have := (List.getElem?_eq_some_iff.1 hx).1
   rwa [fR] at this
 refine ⟨?_, hi⟩
 match i, hi, hx with
 | 0, _, hx => cases hx; simp
 | 1, _, hx => cases hx; simp
 | 2, _, hx => cases hx; simp
 | 3, _, hx => cases hx; simp
 | 4, _, hx => cases hx; simp
 | 5, _, hx => cases hx; simp
 | 6, _, hx => cases hx; simp
 | 7, _, hx => cases hx; simp
 | 8, _, hx => cases hx; simp
 | 9, _, hx => cases hx; simp
 | 10, _, hx => cases hx; simp
 | 11, _, hx => cases hx; simp
 | 12, _, hx => cases hx; simp
 | 13, _, hx => cases hx; simp
 | 14, _, hx => cases hx; simp
 | 15, _, hx => cases hx; simp
 | n + 16, h, _ => omega
def rq (lo : Nat) : List ByteArray -> TV
 | [] => .nils
 | a :: l => .sl lo 1 (bN (a :: l))
def aa.twN (lo : Nat) (x : aa) : List TV := [.str x.name, .int .i64 x.parent, rq lo x.fields]
theorem uO (B K : Nat) (objs : aG) : ∀ l : List ByteArray, Fin B objs K (rq B l) (.sl K 1 (bN l))
 | [] => .nils 1
 | a :: l => cL (f := fun s : ByteArray => [TV.str s]) (f' := fun s : ByteArray => [TV.str s]) (fun x => .cons (.flat rfl) .nil) (a :: l)
theorem aa.finN (B K : Nat) (objs : aG) (x : aa) : jb B objs K (x.twN B) (x.tw K) := .cons (.flat rfl) (.cons (.flat rfl) (.cons (uO B K objs x.fields) .nil))
section
variable {G : World -> Prop}
theorem f5 (hst : az G) : Ct Tryz.prog G 209 [] (fun K => .sl K 3 (bK.map (aa.tw K))) := by
 refine aq Tryz.func209 rfl Tryz.ntmps209 rfl rfl fun w0 _ hG => ?_
 have hlen : (bN cN).length = 16 := rfl
 have hbl : cN.length = 16 := rfl
 repeat' (first | refine W_ ?_ | refine ad hG hst (pC) ?_ | (refine la ?_; intro ss bb))
 apply ak (X := Nat × Nat) [6, 7] (fun x => [(8, .int .i64 (x.1 : Int)), (1, .ms ss x.2 0 x.1)]) (fun x => [(ss, x.2, .row 3 ((bK.take x.1).map (aa.twN w0.heap.size)))]) (fun x => x.1 <= 16) (fun x => 16 - x.1) (0, bb) (Nat.zero_le _)
 exact kp_; exact nw_
 ·exact .refl _
 rintro ⟨i, b⟩ hi
 dsimp only at hi |-
 by_cases hlt : i < 16
 ·obtain ⟨x, hx, h1, _, h3, h4⟩ := jx hlt
  obtain ⟨hp, _⟩ := qU hx
  have hle : ((bK.take i).map (aa.twN w0.heap.size)).length = i := by rw [List.length_map, List.length_take, fR]; omega
  by_cases hf : 1 <= i /\ i <= 4
  ·have hin : inR (i : Int) 1 4 = true := by unfold inR; simp; omega
   have hw : Ct Tryz.prog G 55 [.int .i64 i, .int .i64 1, .int .i64 4] (fun _ => .bool true) := by rw [<- hin]; exact aN _ _ _
   have hbf : gZ (i : Int) = [⟨#[116, 101, 120, 116]⟩] := if_pos (by omega)
   rw [hbf] at h3
   have hrow : ∀ p : Int, p = x.parent -> (bK.take i).map (aa.twN w0.heap.size) ++ [[TV.str x.name, .int .i64 p, .sl w0.heap.size 1 [[TV.str ⟨#[116, 101, 120, 116]⟩]]]] = (bK.take (i + 1)).map (aa.twN w0.heap.size) := fun p h => by
     rw [h4, List.map_append, h]; show _ ++ _ = _ ++ [[_, _, rq w0.heap.size x.fields]]; rw [<- h3]; rfl
   clear h4
   repeat' (first | refine W_ ?_ | (refine am ?_; intro ss bb) | refine ic ?_ | refine ac ?_ | refine ad hG hst (hw) ?_ | refine dS ?_ | (refine sK ?_; intro bb) | refine c_ (fun hc => ?_) (fun hc => ?_) | refine g_ (fun hg => ?_) (fun hg => ?_))
   all_goals
     rw [hrow]
     ·exact ag (i + 1, bb) (by dsimp only; omega) (by dsimp only; omega) (.of _ nw_ od_ pk_)
     ·omega
  ·have hin : inR (i : Int) 1 4 = false := by unfold inR; simp; omega
   have hw : Ct Tryz.prog G 55 [.int .i64 i, .int .i64 1, .int .i64 4] (fun _ => .bool false) := by rw [<- hin]; exact aN _ _ _
   have hbf : gZ (i : Int) = [] := if_neg (by omega)
   rw [hbf] at h3
   have hrow : ∀ p : Int, p = x.parent -> (bK.take i).map (aa.twN w0.heap.size) ++ [[TV.str x.name, .int .i64 p, .nils]] = (bK.take (i + 1)).map (aa.twN w0.heap.size) := fun p h => by
     rw [h4, List.map_append, h]; show _ ++ _ = _ ++ [[_, _, rq w0.heap.size x.fields]]; rw [<- h3]; rfl
   clear h4
   repeat' (first | refine W_ ?_ | (refine am ?_; intro ss bb) | refine ic ?_ | refine ac ?_ | refine ad hG hst (hw) ?_ | refine dS ?_ | (refine sK ?_; intro bb) | refine c_ (fun hc => ?_) (fun hc => ?_))
   all_goals
     rw [hrow]
     ·exact ag (i + 1, bb) (by dsimp only; omega) (by dsimp only; omega) (.of _ nw_ od_ pk_)
     ·omega
 ·obtain rfl : i = 16 := by omega
  repeat' refine W_ ?_
  refine aI x_ rfl (.tmp _ _ rfl) (fun _ => ?_)
  exact acg (f' := aa.tw _) (fun x => aa.finN _ _ _ x) List.mem_cons_self
end
theorem tt {l : List ByteArray} {s : ByteArray} {i : Nat} (h : i < l.length) (e : l[i] = s) : j6 l s = true := by
 unfold j6
 exact List.any_eq_true.2 ⟨_, List.getElem_mem h, by simp [e]⟩
theorem pT {l : List ByteArray} {s : ByteArray} (h : ∀ y ∈ l, y ≠ s) : j6 l s = false := by
 unfold j6
 exact List.any_eq_false.2 fun y hy hb => h y hy (ByteArray.ext (Array.toList_inj.1 (by simpa [Lib.toList_data] using hb)))
theorem lR {a b : List ByteArray} {i : Nat} (ha : i < a.length) (hb : i < b.length) (h : a.take i = b.take i) (e : a[i] = b[i]) : a.take (i + 1) = b.take (i + 1) := by
 rw [List.take_add_one, List.take_add_one, h, List.getElem?_eq_getElem ha, List.getElem?_eq_getElem hb, e]
section
variable {G : World -> Prop}
theorem xy (lo : Nat) (l : List ByteArray) (s : ByteArray) (hn : l.length <= 1048576) : Ct Tryz.prog G 202 [.sl lo 1 (bN l), .str s] (fun _ => .bool (j6 l s)) := by
 refine aq Tryz.func202 rfl Tryz.ntmps202 rfl rfl fun w0 _ hG => ?_
 have hlen := bT l
 repeat' refine W_ ?_
 apply ak (X := Nat) [0, 1] (fun i => [(5, .int .i64 (i : Int))]) (fun _ => []) (fun i => i <= l.length /\ ∀ y ∈ l.take i, y ≠ s) (fun i => l.length - i) 0 ⟨Nat.zero_le _, by simp⟩
 exact kp_; exact nw_
 ·exact .refl _
 rintro i ⟨hi, hs⟩
 try dsimp only
 by_cases hlt : i < l.length
 ·have hrow := eF hlt
  have hta := bg (p := fun y => y ≠ s) hlt hs
  have htr := tt (s := s) hlt
  generalize l[i] = x at hrow hta htr
  by_cases hx : x = s
  ·rw [htr hx]
   repeat' refine W_ ?_
   exact r1_
  ·repeat' refine W_ ?_
   exact ag (i + 1) ⟨by omega, hta hx⟩ (by omega) (.of _ nw_ od_ pk_)
 ·rw [List.take_of_length_le (by omega)] at hs
  rw [pT hs]
  repeat' refine W_ ?_
  exact r1_
theorem jl (l1 l2 : Nat) (a b : List ByteArray) (hn : a.length <= 1048576) (hm : b.length <= 1048576) : Ct Tryz.prog G 200 [.sl l1 1 (bN a), .sl l2 1 (bN b)] (fun _ => .bool (decide (a = b))) := by
 refine aq Tryz.func200 rfl Tryz.ntmps200 rfl rfl fun w0 _ hG => ?_
 have hla := bT a
 have hlb := bT b
 by_cases hl : a.length = b.length
 ·repeat' refine W_ ?_
  apply ak (X := Nat) [0, 1] (fun i => [(5, .int .i64 (i : Int))]) (fun _ => []) (fun i => i <= a.length /\ a.take i = b.take i) (fun i => a.length - i) 0 ⟨Nat.zero_le _, by simp⟩
  exact kp_; exact nw_
  ·exact .refl _
  rintro i ⟨hi, hs⟩
  try dsimp only
  by_cases hlt : i < a.length
  ·have hr1 := eF hlt
   have hlt2 : i < b.length := by omega
   have hr2 := eF hlt2
   have hta := lR hlt hlt2 hs
   have hne : a[i] ≠ b[i] -> decide (a = b) = false := fun h => decide_eq_false fun e => h (by subst e; rfl)
   generalize a[i] = x at hr1 hta hne
   generalize b[i] = y at hr2 hta hne
   by_cases hx : x = y
   ·have hx' : ¬ x ≠ y := fun h => h hx
    repeat' refine V_ ?_
    exact ag (i + 1) ⟨by omega, hta hx⟩ (by omega) (.of _ nw_ od_ pk_)
   ·have hx' : x ≠ y := hx
    rw [hne hx]
    repeat' refine V_ ?_
    exact r1_
  ·rw [List.take_of_length_le (by omega), List.take_of_length_le (by omega)] at hs
   rw [decide_eq_true hs]
   repeat' refine W_ ?_
   exact r1_
 ·rw [decide_eq_false (p := a = b) fun e => hl (by rw [e])]
  repeat' refine W_ ?_
  exact r1_
theorem gD (l1 l2 : Nat) (a b : List ByteArray) (hn : a.length <= 1048576) (hm : b.length <= 1048576) : Ct Tryz.prog G 210 [.sl l1 1 (bN a), .sl l2 1 (bN b)] (fun _ => .bool (decide (a = b))) := by
 refine aq Tryz.func210 rfl Tryz.ntmps210 rfl rfl fun w0 _ hG => ?_
 have hla := bT a
 have hlb := bT b
 by_cases hl : a.length = b.length
 ·repeat' refine W_ ?_
  apply ak (X := Nat) [0, 1, 12] (fun i => [(13, .int .i64 (i : Int))]) (fun _ => []) (fun i => i <= a.length /\ a.take i = b.take i) (fun i => a.length - i) 0 ⟨Nat.zero_le _, by simp⟩
  exact kp_; exact nw_
  ·exact .refl _
  rintro i ⟨hi, hs⟩
  try dsimp only
  by_cases hlt : i < a.length
  ·have hr1 := eF hlt
   have hlt2 : i < b.length := by omega
   have hr2 := eF hlt2
   have hta := lR hlt hlt2 hs
   have hne : a[i] ≠ b[i] -> decide (a = b) = false := fun h => decide_eq_false fun e => h (by subst e; rfl)
   generalize a[i] = x at hr1 hta hne
   generalize b[i] = y at hr2 hta hne
   by_cases hx : x = y
   ·have hx' : ¬ x ≠ y := fun h => h hx
    repeat' refine V_ ?_
    exact ag (i + 1) ⟨by omega, hta hx⟩ (by omega) (.of _ nw_ od_ pk_)
   ·have hx' : x ≠ y := hx
    rw [hne hx]
    repeat' refine V_ ?_
    exact r1_
  ·rw [List.take_of_length_le (by omega), List.take_of_length_le (by omega)] at hs
   rw [decide_eq_true hs]
   repeat' refine W_ ?_
   exact r1_
 ·rw [decide_eq_false (p := a = b) fun e => hl (by rw [e])]
  repeat' refine W_ ?_
  exact r1_
end
def ab3 (l : List ByteArray) (s : ByteArray) : Int := if j6 l s then (l.findIdx (fun y => decide (y = s)) : Nat) else -1
theorem adi {l : List ByteArray} {s : ByteArray} {i : Nat} (h : i < l.length) (e : l[i] = s) (hb : ∀ y ∈ l.take i, y ≠ s) : ab3 l s = i := by
 unfold ab3
 rw [if_pos (tt h e), (List.findIdx_eq (p := fun y => decide (y = s)) h).2 ⟨by simp [e], fun j hj => ?_⟩]
 refine decide_eq_false (hb _ ?_)
 exact List.mem_take_iff_getElem.2 ⟨j, by omega, rfl⟩
theorem aaz {l : List ByteArray} {s : ByteArray} (h : ∀ y ∈ l, y ≠ s) : ab3 l s = -1 := by
 unfold ab3
 rw [pT h]; rfl
section
variable {G : World -> Prop}
theorem iD (s : ByteArray) (hs : s.size <= 1048576) : Ct Tryz.prog G 211 [.str s] (fun _ => .bool (cu s.data.toList)) := il fun w _ => (eS s w hs).mono fun _ _ h => ⟨h.1, vJ h.2⟩
theorem vt (s : ByteArray) (hs : s.size <= 1048576) : Ct Tryz.prog G 255 [.str s] (fun _ => .bool (bO s.data.toList)) := il fun w _ => (fh s w hs).mono fun _ _ h => ⟨h.1, vJ h.2⟩
theorem yL : Ct Tryz.prog G 256 [] (fun K => .sl K 1 (bN fm)) := by
 refine aq Tryz.func256 rfl Tryz.ntmps256 rfl rfl fun w0 _ hG => ?_
 repeat' (first | refine W_ ?_ | refine dS ?_)
 refine aI (r1 := .tmp 0) (t1 := .sl w0.heap.size 1 (bN fm)) (.inr rfl) rfl (.tmp _ _ rfl) (fun _ => ?_)
 exact cL (f := fun s : ByteArray => [TV.str s]) (f' := fun s : ByteArray => [TV.str s]) (fun x => .cons (.flat rfl) .nil) fm
theorem ig (hst : az G) (s : ByteArray) (hs : s.size <= 1048576) : Ct Tryz.prog G 201 [.str s] (fun _ => .bool (cu s.data.toList)) := by
 refine aq Tryz.func201 rfl Tryz.ntmps201 rfl rfl fun w0 _ hG => ?_
 have hw : fm.length <= 1048576 := by decide
 have hp := vt (G := G) s hs
 rw [show cu s.data.toList = (bO s.data.toList && !j6 fm s) from by rw [lx]; rfl]
 cases h : bO s.data.toList
 all_goals
   rw [h] at hp
   cases h2 : j6 fm s
   all_goals
     have hh := xy (G := G) w0.heap.size fm s hw
     rw [h2] at hh
     repeat' (first | refine W_ ?_ | refine ad hG hst (hp) ?_ | refine ad hG hst (yL) ?_ | refine ad hG hst (hh) ?_)
     exact r1_
theorem pA (lo : Nat) (l : List ByteArray) (s : ByteArray) (hn : l.length <= 1048576) : Ct Tryz.prog G 266 [.sl lo 1 (bN l), .str s] (fun _ => .int .i64 (ab3 l s)) := by
 refine aq Tryz.func266 rfl Tryz.ntmps266 rfl rfl fun w0 _ hG => ?_
 have hlen := bT l
 repeat' refine W_ ?_
 apply ak (X := Nat) [0, 1, 7] (fun i => [(8, .int .i64 (i : Int))]) (fun _ => []) (fun i => i <= l.length /\ ∀ y ∈ l.take i, y ≠ s) (fun i => l.length - i) 0 ⟨Nat.zero_le _, by simp⟩
 exact kp_; exact nw_
 ·exact .refl _
 rintro i ⟨hi, hs⟩
 try dsimp only
 by_cases hlt : i < l.length
 ·have hrow := eF hlt
  have hta := bg (p := fun y => y ≠ s) hlt hs
  have htr : l[i] = s -> ab3 l s = i := fun e => adi hlt e hs
  generalize l[i] = x at hrow hta htr
  by_cases hx : x = s
  ·rw [htr hx]
   have hx2 : s = x := hx.symm
   repeat' refine W_ ?_
   exact r1_
  ·have hx2 : ¬ s = x := fun e => hx e.symm
   repeat' refine W_ ?_
   exact ag (i + 1) ⟨by omega, hta hx⟩ (by omega) (.of _ nw_ od_ pk_)
 ·rw [List.take_of_length_le (by omega)] at hs
  rw [aaz hs]
  repeat' refine W_ ?_
  exact r1_
theorem lj (hst : az G) (lo : Nat) (l : List ByteArray) (s : ByteArray) (hn : l.length <= 1048576) : Ct Tryz.prog G 212 [.sl lo 1 (bN l), .str s] (fun _ => .bool (decide (ab3 l s ≥ 0))) := by
 refine aq Tryz.func212 rfl Tryz.ntmps212 rfl rfl fun w0 _ hG => ?_
 repeat' (first | refine W_ ?_ | refine ad hG hst (pA lo l s hn) ?_)
 exact r1_
theorem abw (l : List ByteArray) (s : ByteArray) : decide (ab3 l s ≥ 0) = j6 l s := by
 unfold ab3
 cases j6 l s
 ·rfl
 ·rw [if_pos rfl]; exact decide_eq_true (Int.natCast_nonneg _)
end
def oI (s : ByteArray) : Bool := decide (∀ j, j < s.size -> 32 <= bat s j /\ bat s j <= 126) && decide ((s.size : Int) <= 40)
theorem pU {s : ByteArray} {i : Nat} (h : i < s.size) (hb : ¬ (32 <= bat s i /\ bat s i <= 126)) : oI s = false := by
 unfold oI
 rw [decide_eq_false fun hk => hb (hk i h)]; rfl
theorem nJ {s : ByteArray} (h : ∀ j, j < s.size -> 32 <= bat s j /\ bat s j <= 126) : oI s = decide ((s.size : Int) <= 40) := by
 unfold oI
 rw [decide_eq_true h]; rfl
theorem cj {p : Nat -> Prop} {i : Nat} (h : ∀ j, j < i -> p j) (hi : p i) : ∀ j, j < i + 1 -> p j := fun j hj => by
 rcases Nat.lt_or_ge j i with hk | hk
 ·exact h j hk
 ·obtain rfl : j = i := by omega
  exact hi
section
variable {G : World -> Prop}
theorem uF (s : ByteArray) (hs : s.size <= 1048576) : Ct Tryz.prog G 260 [.str s] (fun _ => .bool (oI s)) := by
 refine aq Tryz.func260 rfl Tryz.ntmps260 rfl rfl fun w0 _ hG => ?_
 repeat' refine W_ ?_
 apply ak (X := Nat) [0] (fun i => [(3, .int .i64 (i : Int))]) (fun _ => []) (fun i => i <= s.size /\ ∀ j, j < i -> 32 <= bat s j /\ bat s j <= 126) (fun i => s.size - i) 0 ⟨Nat.zero_le _, by simp⟩
 exact kp_; exact nw_
 ·exact .refl _
 rintro i ⟨hi, hk⟩
 try dsimp only
 by_cases hlt : i < s.size
 ·have hb := xr s i
  by_cases hx : 32 <= bat s i /\ bat s i <= 126
  ·repeat' refine W_ ?_
   exact ag (i + 1) ⟨by omega, cj hk hx⟩ (by omega) (.of _ nw_ od_ pk_)
  ·rw [pU hlt hx]
   repeat' (first | refine W_ ?_ | refine g_ (fun hg => ?_) (fun hg => ?_))
   all_goals first
     | (exfalso; omega)
     | (exact r1_)
 ·rw [nJ fun j hj => hk j (by omega)]
  repeat' refine W_ ?_
  exact r1_
theorem tg (hst : az G) (s : ByteArray) (hs : s.size <= 1048576) : Ct Tryz.prog G 222 [.str s] (fun _ => .bool (oI s)) := by
 refine aq Tryz.func222 rfl Tryz.ntmps222 rfl rfl fun w0 _ hG => ?_
 repeat' refine W_ ?_
 apply ak (X := Nat) [0] (fun i => [(3, .int .i64 (i : Int))]) (fun _ => []) (fun i => i <= s.size /\ ∀ j, j < i -> 32 <= bat s j /\ bat s j <= 126) (fun i => s.size - i) 0 ⟨Nat.zero_le _, by simp⟩
 exact kp_; exact nw_
 ·exact .refl _
 rintro i ⟨hi, hk⟩
 try dsimp only
 by_cases hlt : i < s.size
 ·have hb := xr s i
  by_cases hx : 32 <= bat s i /\ bat s i <= 126
  ·have hw : Ct Tryz.prog G 55 [.int .i64 (bat s i), .int .i64 32, .int .i64 126] (fun _ => .bool true) := by rw [<- show inR (bat s i) 32 126 = true from by unfold inR; simp; omega]; exact aN _ _ _
   repeat' (first | refine W_ ?_ | refine ad hG hst (hw) ?_)
   exact ag (i + 1) ⟨by omega, cj hk hx⟩ (by omega) (.of _ nw_ od_ pk_)
  ·have hw : Ct Tryz.prog G 55 [.int .i64 (bat s i), .int .i64 32, .int .i64 126] (fun _ => .bool false) := by rw [<- show inR (bat s i) 32 126 = false from by unfold inR; simp; omega]; exact aN _ _ _
   rw [pU hlt hx]
   repeat' (first | refine W_ ?_ | refine ad hG hst (hw) ?_)
   exact r1_
 ·rw [nJ fun j hj => hk j (by omega)]
  repeat' refine W_ ?_
  exact r1_
end
def fieldAt (f : List ByteArray) (k : Nat) (s : ByteArray) : Bool := cu s.data.toList && !j6 (f.take k) s
def rB (f : List ByteArray) : Prop := ∀ (k : Nat) (h : k < f.length), fieldAt f k f[k] = true
def du (l : List aa) (i : Nat) (x : aa) : Prop :=
 cu x.name.data.toList = true /\ (0 <= x.parent /\ x.parent < i) /\ ¬ (5 <= x.parent /\ x.parent <= 15) /\ x.fields.length <= 8
instance (l : List aa) (i : Nat) (x : aa) : Decidable (du l i x) := by unfold du; infer_instance
def tM (l : List aa) (i : Nat) (x : aa) : Prop := ∀ y ∈ l.take i, y.name ≠ x.name
def eh (l : List aa) (x : aa) : List ByteArray := match l[x.parent.toNat]? with
 | some p => p.fields
 | none => []
def abL (l : List aa) (x : aa) : Prop := (eh l x).length <= x.fields.length /\ x.fields.take (eh l x).length = eh l x
def eL (l : List aa) (i : Nat) (x : aa) : Prop :=
 if i < 16 then ∃ b, bK[i]? = some b /\ x.name = b.name /\ x.parent = b.parent /\ x.fields = b.fields
 else du l i x /\ tM l i x /\ abL l x /\ rB x.fields
def p7 (l : List aa) : Prop := (16 <= l.length /\ l.length <= 24) /\ ∀ (i : Nat) (h : i < l.length), eL l i l[i]
open Classical in
noncomputable def bU (l : List aa) : Bool := decide (p7 l)
open Classical in
theorem j8 {l : List aa} (h : ¬ (16 <= l.length /\ l.length <= 24)) : bU l = false := decide_eq_false fun k => h k.1
open Classical in
theorem kt {l : List aa} {i : Nat} (h : i < l.length) (hb : ¬ eL l i l[i]) : bU l = false := decide_eq_false fun k => hb (k.2 i h)
open Classical in
theorem jK {l : List aa} (hl : 16 <= l.length /\ l.length <= 24) (h : ∀ j, j < l.length -> ∀ h : j < l.length, eL l j l[j]) : bU l = true := decide_eq_true ⟨hl, fun i hi => h i hi hi⟩
theorem om {l : List aa} {i : Nat} {x b : aa} (h : i < 16) (hb : bK[i]? = some b) : eL l i x ↔ x.name = b.name /\ x.parent = b.parent /\ x.fields = b.fields := by
 unfold eL
 rw [if_pos h]
 constructor
 ·rintro ⟨c, hc, k⟩
  rw [hb] at hc; cases hc; exact k
 ·exact fun k => ⟨b, hb, k⟩
theorem mf {l : List aa} {i : Nat} {x : aa} (h : ¬ i < 16) : eL l i x ↔ du l i x /\ tM l i x /\ abL l x /\ rB x.fields := by
 unfold eL
 rw [if_neg h]
theorem iO {l : List aa} {x p : aa} {k : Nat} (h : x.parent = k) (hp : l[k]? = some p) : eh l x = p.fields := by
 unfold eh
 rw [h, Int.toNat_natCast, hp]
theorem mo {f : List ByteArray} {k : Nat} (h : k < f.length) (hb : fieldAt f k f[k] = false) : ¬ rB f := fun a => by
 have := a k h
 rw [hb] at this; cases this
theorem zR {G : World -> Prop} (op : Int) : Ct Tryz.prog G 219 [.int .i64 op] (fun _ => .tup [.bool (aey op), .bool (aen op), .bool (aeb op)]) := by
 refine aq Tryz.func219 rfl Tryz.ntmps219 rfl rfl fun w0 _ hG => ?_
 repeat' (first | with_reducible refine dn rfl ?_ | ((with_reducible apply o_y); exact y_; rfl) | with_reducible refine dF ?_ | with_reducible refine cy ?_ | with_reducible refine fZ ?_ | with_reducible refine ed ?_ | with_reducible refine cZ ?_ | with_reducible refine d9 ?_ | with_reducible refine eb ?_ | with_reducible refine fJ ?_ | with_reducible refine bE ?_ | with_reducible refine bv rfl ?_ | with_reducible refine bG ?_ | with_reducible refine bL ?_ | with_reducible refine bF ?_ | with_reducible refine dl ?_ | with_reducible refine dn rfl ?_ | refine iT rfl rfl rfl rr_ ?_ | refine f4 rfl rfl rfl rr_ rfl rfl rfl ?_ | refine ex rfl rfl rfl rr_ rfl rfl ?_ | (refine nt rfl rfl rfl rr_ dd_ ?_) | (refine ni rfl rfl rfl rr_ dd_ ?_) | (refine dX rfl rfl rfl rr_ (fun hg => ?_) (fun hg => ?_)) | (refine dA rfl rfl rfl rr_ (fun hg => ?_) (fun hg => ?_)) | refine cx rfl rr_ ?_ | refine cw rfl rr_ ?_ | (refine ca rfl rr_ dd_ ?_) | (refine ce rfl rr_ dd_ ?_) | (refine ez rfl rr_ (fun hc => ?_) (fun hc => ?_)) | (refine dt rfl rr_ (fun hc => ?_) (fun hc => ?_)))
 all_goals
   refine yW x_ rfl (.tmp _ _ rfl) (.tmp _ _ rfl) (.tmp _ _ rfl) (fun _ => ?_) (fun _ => ?_) (fun _ => ?_)
   all_goals
     refine aL ?_
     simp only [aey, aen, aeb]
     symm
     first | (rw [decide_eq_true_iff]; omega) | (rw [decide_eq_false_iff_not]; omega)
section
variable {G : World -> Prop}
theorem lQ (hst : az G) (lo : Nat) (l : List aa) (hsm : l.length <= 1048576 /\ ∀ y ∈ l, aa.small 1048576 y) : Ct Tryz.prog G 134 [.sl lo 3 (l.map (aa.tw lo))] (fun _ => .bool (bU l)) := by
 refine aq Tryz.func134 rfl Tryz.ntmps134 rfl rfl fun w0 _ hG => ?_
 have hlen := aa.len lo l
 have hbl := aa.len w0.heap.size bK
 rw [fR] at hbl
 have hl1 := hsm.1
 have hwi := aN (G := G) (l.length : Int) 16 24
 by_cases hl : 16 <= l.length /\ l.length <= 24
 ·rw [uK (by omega)] at hwi
  repeat' (first | refine W_ ?_ | refine ad hG hst (hwi) ?_)
  apply ak (X := Nat) [0, 15, 16] (fun i => [(17, .int .i64 (i : Int))]) (fun _ => []) (fun i => i <= l.length /\ ∀ j, j < i -> ∀ h : j < l.length, eL l j l[j]) (fun i => l.length - i) 0 ⟨Nat.zero_le _, by simp⟩
  exact kp_; exact nw_
  ·exact .nil _
  rintro i ⟨hi, hk⟩
  try dsimp only
  by_cases hlt : i < l.length
  ·have hra : (l.map (aa.tw lo))[i]? = some (l[i].tw lo) := aK hlt
   have hbi := hsm.2 _ (List.getElem_mem hlt)
   have hbad := kt hlt
   have hks : eL l i l[i] -> ∀ j, j < i + 1 -> ∀ h : j < l.length, eL l j l[j] := fun ho => cj hk fun _ => ho
   generalize l[i] = x at hra hbi hbad hks
   rw [show x.tw lo = [.str x.name, .int .i64 x.parent, .sl lo 1 (bN x.fields)] from rfl] at hra
   by_cases hlow : i < 16
   ·obtain ⟨bi, hb, _, _, h3, _⟩ := jx hlow
    have hrb : (bK.map (aa.tw w0.heap.size))[i]? = some [.str bi.name, .int .i64 bi.parent, .sl w0.heap.size 1 (bN bi.fields)] := by rw [List.getElem?_map, hb]; rfl
    rw [om hlow hb] at hbad hks
    have hbf : bi.fields.length <= 1048576 := by rw [<- h3]; unfold gZ; split <;> simp
    have heq := gD (G := G) lo w0.heap.size x.fields bi.fields hbi.2.1 hbf
    clear h3
    by_cases ho : x.name = bi.name /\ x.parent = bi.parent /\ x.fields = bi.fields
    ·have n1 : ¬ x.name ≠ bi.name := fun h => h ho.1
     have n2 : ¬ x.parent ≠ bi.parent := fun h => h ho.2.1
     rw [decide_eq_true ho.2.2] at heq
     repeat' (first | refine W_ ?_ | (refine am ?_; intro ss bb) | refine ac ?_ | refine ad hG hst (f5 hst) ?_ | refine ad hG hst (heq) ?_)
     exact ag (i + 1) ⟨by omega, hks ho⟩ (by omega) (.of _ nw_ od_ (cG.nil _))
    ·rw [hbad ho]
     clear hks hbad
     by_cases hfe : x.fields = bi.fields
     ·rw [decide_eq_true hfe] at heq
      repeat' (first | refine W_ ?_ | (refine am ?_; intro ss bb) | refine ac ?_ | refine ad hG hst (f5 hst) ?_ | refine ad hG hst (heq) ?_ | refine g_ (fun hg => ?_) (fun hg => ?_))
      all_goals first
        | (exfalso; exact ho ⟨Decidable.of_not_not (by assumption), Decidable.of_not_not (by assumption), hfe⟩)
        | (exact r1_)
     ·rw [decide_eq_false hfe] at heq
      repeat' (first | refine W_ ?_ | (refine am ?_; intro ss bb) | refine ac ?_ | refine ad hG hst (f5 hst) ?_ | refine ad hG hst (heq) ?_ | refine g_ (fun hg => ?_) (fun hg => ?_))
      all_goals
        exact r1_
   ·rw [mf hlow] at hbad hks
    obtain ⟨nm, par, fs⟩ := x
    dsimp only at hra hbi hbad hks
    have hx1 : nm.size <= 1048576 := hbi.1
    have hx2 : fs.length <= 1048576 := hbi.2.1
    have hx3 : ∀ y ∈ fs, ByteArray.size y <= 1048576 := hbi.2.2
    have hfl := bT fs
    clear hbl
    repeat' (first | refine H_ 10 ?_ | (refine am ?_; intro ss bb) | refine ac ?_)
    refine ⟨dF ?_⟩
    generalize ss = s3; generalize bb = b3
    apply f3 (X := Unit) [0, 3, 4, 15, 16, 17] (fun _ => [(70, .bool (!decide (du l i ⟨nm, par, fs⟩)))]) (fun _ => [(s3, b3, .box [.str nm, .int .i64 par, .sl lo 1 (bN fs)])]) (fun _ => True)
    case hk => (repeat (first | exact jF.nil | (apply jF.cons; rfl)))
    ·repeat' (first | refine W_ ?_ | refine ad hG hst (iD _ hx1) ?_ | refine ad hG hst (aN _ _ _) ?_ | refine g_ (fun hg => ?_) (fun hg => ?_))
     all_goals
       refine ei () trivial (.of _ (cE.envCons (j0 rfl ?_) cE.envNil) od_ pk_)
       clear hbad hks hk hra hbi
       simp only [Bool.not_eq_true', Bool.not_eq_false', inR, decide_eq_true_eq, decide_eq_false_iff_not] at *
       by_cases h8 : (8 : Int) < (fs.length : Int)
       all_goals (try simp only [h8, decide_true, decide_false])
       all_goals first
         | (have : du l i ⟨nm, par, fs⟩ := ⟨by assumption, by dsimp only; omega, by dsimp only; omega, by dsimp only; omega⟩
            simp only [decide_eq_true this, Bool.not_true]
            done)
         | (have : ¬ du l i ⟨nm, par, fs⟩ := fun h => by
              obtain ⟨h1, h2, h3, h4⟩ := h
              dsimp only at h1 h2 h3 h4
              first
                | omega
                | (simp only [h1] at *; done)
                | (simp_all; done)
            simp only [decide_eq_false this, Bool.not_false]
            done)
    intro _ _
    by_cases hh : du l i ⟨nm, par, fs⟩
    ·rw [decide_eq_true hh, Bool.not_true]
     have hh2 := hh.2
     obtain ⟨⟨hp0, hp1⟩, _, hf8⟩ := hh2
     dsimp only at hp0 hp1 hf8
     obtain ⟨p, rfl⟩ : ∃ p : Nat, par = p := ⟨par.toNat, by omega⟩
     have hpl : p < l.length := by omega
     have hrp : (l.map (aa.tw lo))[p]? = some (l[p].tw lo) := aK hpl
     have hbp := hsm.2 _ (List.getElem_mem hpl)
     have hpf := iO (x := ⟨nm, (p : Int), fs⟩) rfl (List.getElem?_eq_getElem hpl)
     generalize l[p] = y at hrp hbp hpf
     obtain ⟨pn, pp, pf⟩ := y
     replace hrp : (l.map (aa.tw lo))[p]? = some [.str pn, .int .i64 pp, .sl lo 1 (bN pf)] := hrp
     have hx4 : pf.length <= 1048576 := hbp.2.1
     have hpl2 := bT pf
     have htl : ((l.map (aa.tw lo)).take i).length = i := by simp; omega
     repeat' (first | refine W_ ?_ | refine xK ?_)
     apply ak (X := Nat) [0, 3, 4, 15, 16, 17, 73, 74] (fun k => [(75, .int .i64 (k : Int))]) (fun _ => [(s3, b3, .box [.str nm, .int .i64 (p : Int), .sl lo 1 (bN fs)])]) (fun k => k <= i /\ ∀ y ∈ l.take k, y.name ≠ nm) (fun k => i - k) 0 ⟨Nat.zero_le _, by simp⟩
     exact kp_; exact nw_
     ·exact .refl _
     rintro k ⟨hki, hkn⟩
     try dsimp only
     by_cases hlk : k < i
     ·have hlk2 : k < l.length := by omega
      have hrk : ((l.map (aa.tw lo)).take i)[k]? = some (l[k].tw lo) := by rw [List.getElem?_take_of_lt hlk]; exact aK hlk2
      have hta := bg (p := fun y : aa => y.name ≠ nm) hlk2 hkn
      have hmem : l[k] ∈ l.take i := List.mem_take_iff_getElem.2 ⟨k, by omega, rfl⟩
      generalize l[k] = z at hrk hta hmem
      obtain ⟨zn, zp, zf⟩ := z
      replace hrk : ((l.map (aa.tw lo)).take i)[k]? = some [.str zn, .int .i64 zp, .sl lo 1 (bN zf)] := hrk
      by_cases hzn : zn = nm
      ·rw [hbad fun h => h.2.1 _ hmem hzn]
       repeat' (first | refine W_ ?_ | (refine am ?_; intro ss bb) | refine ac ?_)
       exact r1_
      ·repeat' (first | refine W_ ?_ | (refine am ?_; intro ss bb) | refine ac ?_)
       exact ag (k + 1) ⟨by omega, hta hzn⟩ (by omega) (.of _ nw_ od_ pk_)
     ·obtain rfl : k = i := by omega
      clear hlk
      by_cases hhe : pf.length <= fs.length /\ fs.take pf.length = pf
      ·have heq := gD (G := G) lo lo (fs.take pf.length) pf (by simp; omega) hx4
       rw [decide_eq_true hhe.2] at heq
       have hsl : (bN fs).take pf.length = bN (fs.take pf.length) := by simp [bN, List.map_take]
       have hle := hhe.1
       repeat' (first | refine W_ ?_ | refine xK ?_ | refine ad hG hst (heq) ?_)
       apply ak (X := Nat) [0, 3, 4, 8, 15, 16, 17, 108, 109] (fun k => [(110, .int .i64 (k : Int))]) (fun _ => [(s3, b3, .box [.str nm, .int .i64 (p : Int), .sl lo 1 (bN fs)])]) (fun k => k <= fs.length /\ ∀ j, j < k -> ∀ h : j < fs.length, fieldAt fs j fs[j] = true) (fun k => fs.length - k) 0 ⟨Nat.zero_le _, by omega⟩
       exact kp_; exact nw_
       ·exact .refl _
       rintro q ⟨hq, hqa⟩
       try dsimp only
       by_cases hqf : q < fs.length
       ·have hfr := eF hqf
        have hqs := hx3 _ (List.getElem_mem hqf)
        have hqb := mo hqf
        have hqn : fieldAt fs q fs[q] = true -> ∀ j, j < q + 1 -> ∀ h : j < fs.length, fieldAt fs j fs[j] = true := fun h => cj hqa fun _ => h
        generalize fs[q] = f at hfr hqs hqb hqn
        have hname := iD (G := G) f hqs
        have hhas := lj (G := G) hst lo (fs.take q) f (by simp; omega)
        rw [abw] at hhas
        have hsq : (bN fs).take q = bN (fs.take q) := by simp [bN, List.map_take]
        have hqle : q <= fs.length := hq
        by_cases hqo : fieldAt fs q f = true
        ·have hqo2 := hqo
         unfold fieldAt at hqo2
         rw [Bool.and_eq_true, Bool.not_eq_true'] at hqo2
         rw [hqo2.1] at hname
         rw [hqo2.2] at hhas
         repeat' (first | refine W_ ?_ | refine xK ?_ | refine ad hG hst (hname) ?_ | refine ad hG hst (hhas) ?_)
         exact ag (q + 1) ⟨by omega, hqn hqo⟩ (by omega) (.of _ nw_ od_ pk_)
        ·rw [hbad fun h => hqb (Bool.eq_false_iff.2 hqo) h.2.2.2]
         by_cases hqs1 : cu f.data.toList = true
         ·have hqs2 : j6 (fs.take q) f = true := by
            unfold fieldAt at hqo
            rw [hqs1, Bool.true_and] at hqo
            simpa using hqo
          rw [hqs1] at hname
          rw [hqs2] at hhas
          repeat' (first | refine W_ ?_ | refine xK ?_ | refine ad hG hst (hname) ?_ | refine ad hG hst (hhas) ?_)
          exact r1_
         ·rw [Bool.eq_false_iff.2 hqs1] at hname
          repeat' (first | refine W_ ?_ | refine ad hG hst (hname) ?_)
          exact r1_
       ·obtain rfl : q = fs.length := by omega
        repeat' refine W_ ?_
        exact ag (k + 1) ⟨by omega, hks ⟨hh, hkn, ⟨by rw [hpf]; exact hhe.1, by rw [hpf]; exact hhe.2⟩, fun j hj => hqa j hj hj⟩⟩ (by omega) (.of _ nw_ od_ (cG.nil _))
      ·rw [hbad fun h => hhe (by have := h.2.2.1; unfold abL at this; rw [hpf] at this; exact this)]
       by_cases hle : pf.length <= fs.length
       ·have heq := gD (G := G) lo lo (fs.take pf.length) pf (by simp; omega) hx4
        rw [decide_eq_false fun h => hhe ⟨hle, h⟩] at heq
        have hsl : (bN fs).take pf.length = bN (fs.take pf.length) := by simp [bN, List.map_take]
        repeat' (first | refine W_ ?_ | refine xK ?_ | refine ad hG hst (heq) ?_)
        exact r1_
       ·repeat' refine W_ ?_
        exact r1_
    ·rw [decide_eq_false hh, Bool.not_false, hbad fun h => hh h.1]
     repeat' refine W_ ?_
     exact r1_
  ·rw [jK hl fun j hj => hk j (by omega)]
   repeat' refine W_ ?_
   exact r1_
 ·rw [abH (by omega)] at hwi
  rw [j8 hl]
  repeat' (first | refine W_ ?_ | refine ad hG hst (hwi) ?_)
  exact r1_
end
end Go.Proofs.YtiihihgjiklnoaaGreatDoor
