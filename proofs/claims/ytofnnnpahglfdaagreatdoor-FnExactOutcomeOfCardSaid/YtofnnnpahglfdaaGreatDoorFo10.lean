/- Part 10 of the proof: the texts IvB, IvC, IvD, IvE, IvP, IvF, IvH. -/
import Derived.Test.YtofnnnpahglfdaaGreatDoorFo3
import Derived.Test.YtofnnnpahglfdaaGreatDoorFo7
import Derived.Test.YtofnnnpahglfdaaGreatDoorFo6
import Derived.Test.YtofnnnpahglfdaaGreatDoorFo4
set_option linter.all false
set_option maxHeartbeats 4000000
set_option maxRecDepth 20000
namespace Go.Proofs.YtofnnnpahglfdaaGreatDoor
open Go Go.RowKit
theorem rb {i : Nat} {x : aa} (hx : bA[i]? = some x) : ((i = 0 -> x.parent = -1) /\ (i = 2 -> x.parent = 1) /\ (i = 3 -> x.parent = 2) /\ (i = 4 -> x.parent = 2) /\ (i ≠ 0 -> i ≠ 2 -> i ≠ 3 -> i ≠ 4 -> x.parent = 0)) /\ (i < 16) := by
 have hi : i < 16 := by
   have := (List.getElem?_eq_some_iff.1 hx).1
   rwa [fw] at this
 refine ⟨?_, hi⟩
 match i, hi, hx with
 | 0, _, hx => cases hx; simp
 | 1, _, hx => cases hx; simp
 | 2, _, hx => cases hx; simp
 | 3, _, hx => cases hx; simp
 | 4, _, hx => cases hx; simp
 | 5, _, hx => cases hx; simp
 | 6, _, hx => cases hx; simp
 | 7, _, hx => cases hx; simp
 | 8, _, hx => cases hx; simp
 | 9, _, hx => cases hx; simp
 | 10, _, hx => cases hx; simp
 | 11, _, hx => cases hx; simp
 | 12, _, hx => cases hx; simp
 | 13, _, hx => cases hx; simp
 | 14, _, hx => cases hx; simp
 | 15, _, hx => cases hx; simp
 | n + 16, h, _ => omega
def rT (lo : Nat) : List ByteArray -> TV
 | [] => .nils
 | a :: l => .sl lo 1 (a8 (a :: l))
def aa.twN (lo : Nat) (x : aa) : List TV := [.str x.name, .int .i64 x.parent, rT lo x.fields]
theorem vT (B K : Nat) (objs : aH) : ∀ l : List ByteArray, Fin B objs K (rT B l) (.sl K 1 (a8 l))
 | [] => .nils 1
 | a :: l => cj (f := fun s : ByteArray => [TV.str s]) (f' := fun s : ByteArray => [TV.str s]) (fun x => .cons (.flat rfl) .nil) (a :: l)
theorem aa.finN (B K : Nat) (objs : aH) (x : aa) : iM B objs K (x.twN B) (x.tw K) := .cons (.flat rfl) (.cons (.flat rfl) (.cons (vT B K objs x.fields) .nil))
section
variable {G : World -> Prop}
theorem fr (hst : aB G) : Ct Tryz.prog G 252 [] (fun K => .sl K 3 (bA.map (aa.tw K))) := by
 refine am Tryz.func252 rfl Tryz.ntmps252 rfl rfl fun w0 _ hG => ?_
 have hlen : (a8 cn).length = 16 := rfl
 have hbl : cn.length = 16 := rfl
 repeat' (first | refine W_ ?_ | refine ab hG hst (oP) ?_ | (refine kQ ?_; intro ss bb))
 apply ak (X := Nat × Nat) [6, 7] (fun x => [(8, .int .i64 (x.1 : Int)), (1, .ms ss x.2 0 x.1)]) (fun x => [(ss, x.2, .row 3 ((bA.take x.1).map (aa.twN w0.heap.size)))]) (fun x => x.1 <= 16) (fun x => 16 - x.1) (0, bb) (Nat.zero_le _)
 exact kp_; exact nw_
 ·exact .refl _
 rintro ⟨i, b⟩ hi
 dsimp only at hi |-
 by_cases hlt : i < 16
 ·obtain ⟨x, hx, h1, _, h3, h4⟩ := jd hlt
  obtain ⟨hp, _⟩ := rb hx
  have hle : ((bA.take i).map (aa.twN w0.heap.size)).length = i := by rw [List.length_map, List.length_take, fw]; omega
  by_cases hf : 1 <= i /\ i <= 4
  ·have hin : inR (i : Int) 1 4 = true := by unfold inR; simp; omega
   have hw : Ct Tryz.prog G 70 [.int .i64 i, .int .i64 1, .int .i64 4] (fun _ => .bool true) := by rw [<- hin]; exact aN _ _ _
   have hbf : gQ (i : Int) = [⟨#[116, 101, 120, 116]⟩] := if_pos (by omega)
   rw [hbf] at h3
   have hrow : ∀ p : Int, p = x.parent -> (bA.take i).map (aa.twN w0.heap.size) ++ [[TV.str x.name, .int .i64 p, .sl w0.heap.size 1 [[TV.str ⟨#[116, 101, 120, 116]⟩]]]] = (bA.take (i + 1)).map (aa.twN w0.heap.size) := fun p h => by
     rw [h4, List.map_append, h]; show _ ++ _ = _ ++ [[_, _, rT w0.heap.size x.fields]]; rw [<- h3]; rfl
   clear h4
   repeat' (first | refine W_ ?_ | (refine aj ?_; intro ss bb) | refine eW ?_ | refine ac ?_ | refine ab hG hst (hw) ?_ | refine cH ?_ | (refine uA ?_; intro bb) | refine c_ (fun hc => ?_) (fun hc => ?_) | refine g_ (fun hg => ?_) (fun hg => ?_))
   all_goals
     rw [hrow]
     ·exact ag (i + 1, bb) (by dsimp only; omega) (by dsimp only; omega) (.of _ nw_ od_ pk_)
     ·omega
  ·have hin : inR (i : Int) 1 4 = false := by unfold inR; simp; omega
   have hw : Ct Tryz.prog G 70 [.int .i64 i, .int .i64 1, .int .i64 4] (fun _ => .bool false) := by rw [<- hin]; exact aN _ _ _
   have hbf : gQ (i : Int) = [] := if_neg (by omega)
   rw [hbf] at h3
   have hrow : ∀ p : Int, p = x.parent -> (bA.take i).map (aa.twN w0.heap.size) ++ [[TV.str x.name, .int .i64 p, .nils]] = (bA.take (i + 1)).map (aa.twN w0.heap.size) := fun p h => by
     rw [h4, List.map_append, h]; show _ ++ _ = _ ++ [[_, _, rT w0.heap.size x.fields]]; rw [<- h3]; rfl
   clear h4
   repeat' (first | refine W_ ?_ | (refine aj ?_; intro ss bb) | refine eW ?_ | refine ac ?_ | refine ab hG hst (hw) ?_ | refine cH ?_ | (refine uA ?_; intro bb) | refine c_ (fun hc => ?_) (fun hc => ?_))
   all_goals
     rw [hrow]
     ·exact ag (i + 1, bb) (by dsimp only; omega) (by dsimp only; omega) (.of _ nw_ od_ pk_)
     ·omega
 ·obtain rfl : i = 16 := by omega
  repeat' refine W_ ?_
  refine aE x_ rfl (.tmp _ _ rfl) (fun _ => ?_)
  exact xu (f' := aa.tw _) (fun x => aa.finN _ _ _ x) List.mem_cons_self
end
theorem tG {l : List ByteArray} {s : ByteArray} {i : Nat} (h : i < l.length) (e : l[i] = s) : ij l s = true := by
 unfold ij
 exact List.any_eq_true.2 ⟨_, List.getElem_mem h, by simp [e]⟩
theorem pI {l : List ByteArray} {s : ByteArray} (h : ∀ y ∈ l, y ≠ s) : ij l s = false := by
 unfold ij
 exact List.any_eq_false.2 fun y hy hb => h y hy (ByteArray.ext (Array.toList_inj.1 (by simpa [Lib.toList_data] using hb)))
theorem lT {a b : List ByteArray} {i : Nat} (ha : i < a.length) (hb : i < b.length) (h : a.take i = b.take i) (e : a[i] = b[i]) : a.take (i + 1) = b.take (i + 1) := by
 rw [List.take_add_one, List.take_add_one, h, List.getElem?_eq_getElem ha, List.getElem?_eq_getElem hb, e]
section
variable {G : World -> Prop}
theorem sc (lo : Nat) (l : List ByteArray) (s : ByteArray) (hn : l.length <= 1048576) : Ct Tryz.prog G 212 [.sl lo 1 (a8 l), .str s] (fun _ => .bool (ij l s)) := by
 refine am Tryz.func212 rfl Tryz.ntmps212 rfl rfl fun w0 _ hG => ?_
 have hlen := aZ l
 repeat' refine W_ ?_
 apply ak (X := Nat) [0, 1] (fun i => [(5, .int .i64 (i : Int))]) (fun _ => []) (fun i => i <= l.length /\ ∀ y ∈ l.take i, y ≠ s) (fun i => l.length - i) 0 ⟨Nat.zero_le _, by simp⟩
 exact kp_; exact nw_
 ·exact .refl _
 rintro i ⟨hi, hs⟩
 try dsimp only
 by_cases hlt : i < l.length
 ·have hrow := dH hlt
  have hta := aV (p := fun y => y ≠ s) hlt hs
  have htr := tG (s := s) hlt
  generalize l[i] = x at hrow hta htr
  by_cases hx : x = s
  ·rw [htr hx]
   repeat' refine W_ ?_
   exact r1_
  ·repeat' refine W_ ?_
   exact ag (i + 1) ⟨by omega, hta hx⟩ (by omega) (.of _ nw_ od_ pk_)
 ·rw [List.take_of_length_le (by omega)] at hs
  rw [pI hs]
  repeat' refine W_ ?_
  exact r1_
theorem jc (l1 l2 : Nat) (a b : List ByteArray) (hn : a.length <= 1048576) (hm : b.length <= 1048576) : Ct Tryz.prog G 180 [.sl l1 1 (a8 a), .sl l2 1 (a8 b)] (fun _ => .bool (decide (a = b))) := by
 refine am Tryz.func180 rfl Tryz.ntmps180 rfl rfl fun w0 _ hG => ?_
 have hla := aZ a
 have hlb := aZ b
 by_cases hl : a.length = b.length
 ·repeat' refine W_ ?_
  apply ak (X := Nat) [0, 1] (fun i => [(5, .int .i64 (i : Int))]) (fun _ => []) (fun i => i <= a.length /\ a.take i = b.take i) (fun i => a.length - i) 0 ⟨Nat.zero_le _, by simp⟩
  exact kp_; exact nw_
  ·exact .refl _
  rintro i ⟨hi, hs⟩
  try dsimp only
  by_cases hlt : i < a.length
  ·have hr1 := dH hlt
   have hlt2 : i < b.length := by omega
   have hr2 := dH hlt2
   have hta := lT hlt hlt2 hs
   have hne : a[i] ≠ b[i] -> decide (a = b) = false := fun h => decide_eq_false fun e => h (by subst e; rfl)
   generalize a[i] = x at hr1 hta hne
   generalize b[i] = y at hr2 hta hne
   by_cases hx : x = y
   ·have hx' : ¬ x ≠ y := fun h => h hx
    repeat' refine V_ ?_
    exact ag (i + 1) ⟨by omega, hta hx⟩ (by omega) (.of _ nw_ od_ pk_)
   ·have hx' : x ≠ y := hx
    rw [hne hx]
    repeat' refine V_ ?_
    exact r1_
  ·rw [List.take_of_length_le (by omega), List.take_of_length_le (by omega)] at hs
   rw [decide_eq_true hs]
   repeat' refine W_ ?_
   exact r1_
 ·rw [decide_eq_false (p := a = b) fun e => hl (by rw [e])]
  repeat' refine W_ ?_
  exact r1_
theorem fN (l1 l2 : Nat) (a b : List ByteArray) (hn : a.length <= 1048576) (hm : b.length <= 1048576) : Ct Tryz.prog G 253 [.sl l1 1 (a8 a), .sl l2 1 (a8 b)] (fun _ => .bool (decide (a = b))) := by
 refine am Tryz.func253 rfl Tryz.ntmps253 rfl rfl fun w0 _ hG => ?_
 have hla := aZ a
 have hlb := aZ b
 by_cases hl : a.length = b.length
 ·repeat' refine W_ ?_
  apply ak (X := Nat) [0, 1, 12] (fun i => [(13, .int .i64 (i : Int))]) (fun _ => []) (fun i => i <= a.length /\ a.take i = b.take i) (fun i => a.length - i) 0 ⟨Nat.zero_le _, by simp⟩
  exact kp_; exact nw_
  ·exact .refl _
  rintro i ⟨hi, hs⟩
  try dsimp only
  by_cases hlt : i < a.length
  ·have hr1 := dH hlt
   have hlt2 : i < b.length := by omega
   have hr2 := dH hlt2
   have hta := lT hlt hlt2 hs
   have hne : a[i] ≠ b[i] -> decide (a = b) = false := fun h => decide_eq_false fun e => h (by subst e; rfl)
   generalize a[i] = x at hr1 hta hne
   generalize b[i] = y at hr2 hta hne
   by_cases hx : x = y
   ·have hx' : ¬ x ≠ y := fun h => h hx
    repeat' refine V_ ?_
    exact ag (i + 1) ⟨by omega, hta hx⟩ (by omega) (.of _ nw_ od_ pk_)
   ·have hx' : x ≠ y := hx
    rw [hne hx]
    repeat' refine V_ ?_
    exact r1_
  ·rw [List.take_of_length_le (by omega), List.take_of_length_le (by omega)] at hs
   rw [decide_eq_true hs]
   repeat' refine W_ ?_
   exact r1_
 ·rw [decide_eq_false (p := a = b) fun e => hl (by rw [e])]
  repeat' refine W_ ?_
  exact r1_
end
def ab6 (l : List ByteArray) (s : ByteArray) : Int := if ij l s then (l.findIdx (fun y => decide (y = s)) : Nat) else -1
theorem adk {l : List ByteArray} {s : ByteArray} {i : Nat} (h : i < l.length) (e : l[i] = s) (hb : ∀ y ∈ l.take i, y ≠ s) : ab6 l s = i := by
 unfold ab6
 rw [if_pos (tG h e), (List.findIdx_eq (p := fun y => decide (y = s)) h).2 ⟨by simp [e], fun j hj => ?_⟩]
 refine decide_eq_false (hb _ ?_)
 exact List.mem_take_iff_getElem.2 ⟨j, by omega, rfl⟩
theorem zy {l : List ByteArray} {s : ByteArray} (h : ∀ y ∈ l, y ≠ s) : ab6 l s = -1 := by
 unfold ab6
 rw [pI h]; rfl
section
variable {G : World -> Prop}
theorem gM (s : ByteArray) (hs : s.size <= 1048576) : Ct Tryz.prog G 254 [.str s] (fun _ => .bool (bT s.data.toList)) := gp fun w _ => (eu s w hs).mono fun _ _ h => ⟨h.1, wc h.2⟩
theorem vw (s : ByteArray) (hs : s.size <= 1048576) : Ct Tryz.prog G 248 [.str s] (fun _ => .bool (bG s.data.toList)) := gp fun w _ => (eM s w hs).mono fun _ _ h => ⟨h.1, wc h.2⟩
theorem x7 : Ct Tryz.prog G 249 [] (fun K => .sl K 1 (a8 eO)) := by
 refine am Tryz.func249 rfl Tryz.ntmps249 rfl rfl fun w0 _ hG => ?_
 repeat' (first | refine W_ ?_ | refine cH ?_)
 refine aE (r1 := .tmp 0) (t1 := .sl w0.heap.size 1 (a8 eO)) (.inr rfl) rfl (.tmp _ _ rfl) (fun _ => ?_)
 exact cj (f := fun s : ByteArray => [TV.str s]) (f' := fun s : ByteArray => [TV.str s]) (fun x => .cons (.flat rfl) .nil) eO
theorem gq (hst : aB G) (s : ByteArray) (hs : s.size <= 1048576) : Ct Tryz.prog G 241 [.str s] (fun _ => .bool (bT s.data.toList)) := by
 refine am Tryz.func241 rfl Tryz.ntmps241 rfl rfl fun w0 _ hG => ?_
 have hw : eO.length <= 1048576 := by decide
 have hp := vw (G := G) s hs
 rw [show bT s.data.toList = (bG s.data.toList && !ij eO s) from by rw [lK]; rfl]
 cases h : bG s.data.toList
 all_goals
   rw [h] at hp
   cases h2 : ij eO s
   all_goals
     have hh := sc (G := G) w0.heap.size eO s hw
     rw [h2] at hh
     repeat' (first | refine W_ ?_ | refine ab hG hst (hp) ?_ | refine ab hG hst (x7) ?_ | refine ab hG hst (hh) ?_)
     exact r1_
theorem oV (lo : Nat) (l : List ByteArray) (s : ByteArray) (hn : l.length <= 1048576) : Ct Tryz.prog G 301 [.sl lo 1 (a8 l), .str s] (fun _ => .int .i64 (ab6 l s)) := by
 refine am Tryz.func301 rfl Tryz.ntmps301 rfl rfl fun w0 _ hG => ?_
 have hlen := aZ l
 repeat' refine W_ ?_
 apply ak (X := Nat) [0, 1, 7] (fun i => [(8, .int .i64 (i : Int))]) (fun _ => []) (fun i => i <= l.length /\ ∀ y ∈ l.take i, y ≠ s) (fun i => l.length - i) 0 ⟨Nat.zero_le _, by simp⟩
 exact kp_; exact nw_
 ·exact .refl _
 rintro i ⟨hi, hs⟩
 try dsimp only
 by_cases hlt : i < l.length
 ·have hrow := dH hlt
  have hta := aV (p := fun y => y ≠ s) hlt hs
  have htr : l[i] = s -> ab6 l s = i := fun e => adk hlt e hs
  generalize l[i] = x at hrow hta htr
  by_cases hx : x = s
  ·rw [htr hx]
   have hx2 : s = x := hx.symm
   repeat' refine W_ ?_
   exact r1_
  ·have hx2 : ¬ s = x := fun e => hx e.symm
   repeat' refine W_ ?_
   exact ag (i + 1) ⟨by omega, hta hx⟩ (by omega) (.of _ nw_ od_ pk_)
 ·rw [List.take_of_length_le (by omega)] at hs
  rw [zy hs]
  repeat' refine W_ ?_
  exact r1_
theorem lz (hst : aB G) (lo : Nat) (l : List ByteArray) (s : ByteArray) (hn : l.length <= 1048576) : Ct Tryz.prog G 255 [.sl lo 1 (a8 l), .str s] (fun _ => .bool (decide (ab6 l s ≥ 0))) := by
 refine am Tryz.func255 rfl Tryz.ntmps255 rfl rfl fun w0 _ hG => ?_
 repeat' (first | refine W_ ?_ | refine ab hG hst (oV lo l s hn) ?_)
 exact r1_
theorem abD (l : List ByteArray) (s : ByteArray) : decide (ab6 l s ≥ 0) = ij l s := by
 unfold ab6
 cases ij l s
 ·rfl
 ·rw [if_pos rfl]; exact decide_eq_true (Int.natCast_nonneg _)
end
def nt (s : ByteArray) : Bool := decide (∀ j, j < s.size -> 32 <= bat s j /\ bat s j <= 126) && decide ((s.size : Int) <= 40)
theorem pF {s : ByteArray} {i : Nat} (h : i < s.size) (hb : ¬ (32 <= bat s i /\ bat s i <= 126)) : nt s = false := by
 unfold nt
 rw [decide_eq_false fun hk => hb (hk i h)]; rfl
theorem oJ {s : ByteArray} (h : ∀ j, j < s.size -> 32 <= bat s j /\ bat s j <= 126) : nt s = decide ((s.size : Int) <= 40) := by
 unfold nt
 rw [decide_eq_true h]; rfl
theorem bS {p : Nat -> Prop} {i : Nat} (h : ∀ j, j < i -> p j) (hi : p i) : ∀ j, j < i + 1 -> p j := fun j hj => by
 rcases Nat.lt_or_ge j i with hk | hk
 ·exact h j hk
 ·obtain rfl : j = i := by omega
  exact hi
section
variable {G : World -> Prop}
theorem vS (s : ByteArray) (hs : s.size <= 1048576) : Ct Tryz.prog G 293 [.str s] (fun _ => .bool (nt s)) := by
 refine am Tryz.func293 rfl Tryz.ntmps293 rfl rfl fun w0 _ hG => ?_
 repeat' refine W_ ?_
 apply ak (X := Nat) [0] (fun i => [(3, .int .i64 (i : Int))]) (fun _ => []) (fun i => i <= s.size /\ ∀ j, j < i -> 32 <= bat s j /\ bat s j <= 126) (fun i => s.size - i) 0 ⟨Nat.zero_le _, by simp⟩
 exact kp_; exact nw_
 ·exact .refl _
 rintro i ⟨hi, hk⟩
 try dsimp only
 by_cases hlt : i < s.size
 ·have hb := qh s i
  by_cases hx : 32 <= bat s i /\ bat s i <= 126
  ·repeat' refine W_ ?_
   exact ag (i + 1) ⟨by omega, bS hk hx⟩ (by omega) (.of _ nw_ od_ pk_)
  ·rw [pF hlt hx]
   repeat' (first | refine W_ ?_ | refine g_ (fun hg => ?_) (fun hg => ?_))
   all_goals first
     | (exfalso; omega)
     | (exact r1_)
 ·rw [oJ fun j hj => hk j (by omega)]
  repeat' refine W_ ?_
  exact r1_
theorem sy (hst : aB G) (s : ByteArray) (hs : s.size <= 1048576) : Ct Tryz.prog G 264 [.str s] (fun _ => .bool (nt s)) := by
 refine am Tryz.func264 rfl Tryz.ntmps264 rfl rfl fun w0 _ hG => ?_
 repeat' refine W_ ?_
 apply ak (X := Nat) [0] (fun i => [(3, .int .i64 (i : Int))]) (fun _ => []) (fun i => i <= s.size /\ ∀ j, j < i -> 32 <= bat s j /\ bat s j <= 126) (fun i => s.size - i) 0 ⟨Nat.zero_le _, by simp⟩
 exact kp_; exact nw_
 ·exact .refl _
 rintro i ⟨hi, hk⟩
 try dsimp only
 by_cases hlt : i < s.size
 ·have hb := qh s i
  by_cases hx : 32 <= bat s i /\ bat s i <= 126
  ·have hw : Ct Tryz.prog G 70 [.int .i64 (bat s i), .int .i64 32, .int .i64 126] (fun _ => .bool true) := by rw [<- show inR (bat s i) 32 126 = true from by unfold inR; simp; omega]; exact aN _ _ _
   repeat' (first | refine W_ ?_ | refine ab hG hst (hw) ?_)
   exact ag (i + 1) ⟨by omega, bS hk hx⟩ (by omega) (.of _ nw_ od_ pk_)
  ·have hw : Ct Tryz.prog G 70 [.int .i64 (bat s i), .int .i64 32, .int .i64 126] (fun _ => .bool false) := by rw [<- show inR (bat s i) 32 126 = false from by unfold inR; simp; omega]; exact aN _ _ _
   rw [pF hlt hx]
   repeat' (first | refine W_ ?_ | refine ab hG hst (hw) ?_)
   exact r1_
 ·rw [oJ fun j hj => hk j (by omega)]
  repeat' refine W_ ?_
  exact r1_
end
def fieldAt (f : List ByteArray) (k : Nat) (s : ByteArray) : Bool := bT s.data.toList && !ij (f.take k) s
def rM (f : List ByteArray) : Prop := ∀ (k : Nat) (h : k < f.length), fieldAt f k f[k] = true
def cV (l : List aa) (i : Nat) (x : aa) : Prop :=
 bT x.name.data.toList = true /\ (0 <= x.parent /\ x.parent < i) /\ ¬ (5 <= x.parent /\ x.parent <= 15) /\ x.fields.length <= 8
instance (l : List aa) (i : Nat) (x : aa) : Decidable (cV l i x) := by unfold cV; infer_instance
def sw (l : List aa) (i : Nat) (x : aa) : Prop := ∀ y ∈ l.take i, y.name ≠ x.name
def eL (l : List aa) (x : aa) : List ByteArray := match l[x.parent.toNat]? with
 | some p => p.fields
 | none => []
def abI (l : List aa) (x : aa) : Prop := (eL l x).length <= x.fields.length /\ x.fields.take (eL l x).length = eL l x
def dI (l : List aa) (i : Nat) (x : aa) : Prop :=
 if i < 16 then ∃ b, bA[i]? = some b /\ x.name = b.name /\ x.parent = b.parent /\ x.fields = b.fields
 else cV l i x /\ sw l i x /\ abI l x /\ rM x.fields
def je (l : List aa) : Prop := (16 <= l.length /\ l.length <= 24) /\ ∀ (i : Nat) (h : i < l.length), dI l i l[i]
open Classical in
noncomputable def bH (l : List aa) : Bool := decide (je l)
open Classical in
theorem ky {l : List aa} (h : ¬ (16 <= l.length /\ l.length <= 24)) : bH l = false := decide_eq_false fun k => h k.1
open Classical in
theorem kp {l : List aa} {i : Nat} (h : i < l.length) (hb : ¬ dI l i l[i]) : bH l = false := decide_eq_false fun k => hb (k.2 i h)
open Classical in
theorem jv {l : List aa} (hl : 16 <= l.length /\ l.length <= 24) (h : ∀ j, j < l.length -> ∀ h : j < l.length, dI l j l[j]) : bH l = true := decide_eq_true ⟨hl, fun i hi => h i hi hi⟩
theorem n6 {l : List aa} {i : Nat} {x b : aa} (h : i < 16) (hb : bA[i]? = some b) : dI l i x ↔ x.name = b.name /\ x.parent = b.parent /\ x.fields = b.fields := by
 unfold dI
 rw [if_pos h]
 constructor
 ·rintro ⟨c, hc, k⟩
  rw [hb] at hc; cases hc; exact k
 ·exact fun k => ⟨b, hb, k⟩
theorem ma {l : List aa} {i : Nat} {x : aa} (h : ¬ i < 16) : dI l i x ↔ cV l i x /\ sw l i x /\ abI l x /\ rM x.fields := by
 unfold dI
 rw [if_neg h]
theorem iI {l : List aa} {x p : aa} {k : Nat} (h : x.parent = k) (hp : l[k]? = some p) : eL l x = p.fields := by
 unfold eL
 rw [h, Int.toNat_natCast, hp]
theorem lO {f : List ByteArray} {k : Nat} (h : k < f.length) (hb : fieldAt f k f[k] = false) : ¬ rM f := fun a => by
 have := a k h
 rw [hb] at this; cases this
theorem abb {G : World -> Prop} (op : Int) : Ct Tryz.prog G 261 [.int .i64 op] (fun _ => .tup [.bool (aex op), .bool (aez op), .bool (aet op)]) := by
 refine am Tryz.func261 rfl Tryz.ntmps261 rfl rfl fun w0 _ hG => ?_
 repeat' (first | with_reducible refine cR rfl ?_ | ((with_reducible apply o_y); exact y_; rfl) | with_reducible refine dp ?_ | with_reducible refine cg ?_ | with_reducible refine fB ?_ | with_reducible refine dJ ?_ | with_reducible refine cC ?_ | with_reducible refine dS ?_ | with_reducible refine dL ?_ | with_reducible refine fl ?_ | with_reducible refine bx ?_ | with_reducible refine ba rfl ?_ | with_reducible refine bu ?_ | with_reducible refine bF ?_ | with_reducible refine bv ?_ | with_reducible refine cQ ?_ | with_reducible refine cR rfl ?_ | refine iJ rfl rfl rfl rr_ ?_ | refine fq rfl rfl rfl rr_ rfl rfl rfl ?_ | refine d7 rfl rfl rfl rr_ rfl rfl ?_ | (refine nL rfl rfl rfl rr_ dd_ ?_) | (refine ox rfl rfl rfl rr_ dd_ ?_) | (refine dx rfl rfl rfl rr_ (fun hg => ?_) (fun hg => ?_)) | (refine dl rfl rfl rfl rr_ (fun hg => ?_) (fun hg => ?_)) | refine ce rfl rr_ ?_ | refine cf rfl rr_ ?_ | (refine bN rfl rr_ dd_ ?_) | (refine bO rfl rr_ dd_ ?_) | (refine dZ rfl rr_ (fun hc => ?_) (fun hc => ?_)) | (refine cW rfl rr_ (fun hc => ?_) (fun hc => ?_)))
 all_goals
   refine aaX x_ rfl (.tmp _ _ rfl) (.tmp _ _ rfl) (.tmp _ _ rfl) (fun _ => ?_) (fun _ => ?_) (fun _ => ?_)
   all_goals
     refine aK ?_
     simp only [aex, aez, aet]
     symm
     first | (rw [decide_eq_true_iff]; omega) | (rw [decide_eq_false_iff_not]; omega)
section
variable {G : World -> Prop}
theorem lX (hst : aB G) (lo : Nat) (l : List aa) (hsm : l.length <= 1048576 /\ ∀ y ∈ l, aa.small 1048576 y) : Ct Tryz.prog G 193 [.sl lo 3 (l.map (aa.tw lo))] (fun _ => .bool (bH l)) := by
 refine am Tryz.func193 rfl Tryz.ntmps193 rfl rfl fun w0 _ hG => ?_
 have hlen := aa.len lo l
 have hbl := aa.len w0.heap.size bA
 rw [fw] at hbl
 have hl1 := hsm.1
 have hwi := aN (G := G) (l.length : Int) 16 24
 by_cases hl : 16 <= l.length /\ l.length <= 24
 ·rw [vE (by omega)] at hwi
  repeat' (first | refine W_ ?_ | refine ab hG hst (hwi) ?_)
  apply ak (X := Nat) [0, 15, 16] (fun i => [(17, .int .i64 (i : Int))]) (fun _ => []) (fun i => i <= l.length /\ ∀ j, j < i -> ∀ h : j < l.length, dI l j l[j]) (fun i => l.length - i) 0 ⟨Nat.zero_le _, by simp⟩
  exact kp_; exact nw_
  ·exact .nil _
  rintro i ⟨hi, hk⟩
  try dsimp only
  by_cases hlt : i < l.length
  ·have hra : (l.map (aa.tw lo))[i]? = some (l[i].tw lo) := aM hlt
   have hbi := hsm.2 _ (List.getElem_mem hlt)
   have hbad := kp hlt
   have hks : dI l i l[i] -> ∀ j, j < i + 1 -> ∀ h : j < l.length, dI l j l[j] := fun ho => bS hk fun _ => ho
   generalize l[i] = x at hra hbi hbad hks
   rw [show x.tw lo = [.str x.name, .int .i64 x.parent, .sl lo 1 (a8 x.fields)] from rfl] at hra
   by_cases hlow : i < 16
   ·obtain ⟨bi, hb, _, _, h3, _⟩ := jd hlow
    have hrb : (bA.map (aa.tw w0.heap.size))[i]? = some [.str bi.name, .int .i64 bi.parent, .sl w0.heap.size 1 (a8 bi.fields)] := by rw [List.getElem?_map, hb]; rfl
    rw [n6 hlow hb] at hbad hks
    have hbf : bi.fields.length <= 1048576 := by rw [<- h3]; unfold gQ; split <;> simp
    have heq := fN (G := G) lo w0.heap.size x.fields bi.fields hbi.2.1 hbf
    clear h3
    by_cases ho : x.name = bi.name /\ x.parent = bi.parent /\ x.fields = bi.fields
    ·have n1 : ¬ x.name ≠ bi.name := fun h => h ho.1
     have n2 : ¬ x.parent ≠ bi.parent := fun h => h ho.2.1
     rw [decide_eq_true ho.2.2] at heq
     repeat' (first | refine W_ ?_ | (refine aj ?_; intro ss bb) | refine ac ?_ | refine ab hG hst (fr hst) ?_ | refine ab hG hst (heq) ?_)
     exact ag (i + 1) ⟨by omega, hks ho⟩ (by omega) (.of _ nw_ od_ (de.nil _))
    ·rw [hbad ho]
     clear hks hbad
     by_cases hfe : x.fields = bi.fields
     ·rw [decide_eq_true hfe] at heq
      repeat' (first | refine W_ ?_ | (refine aj ?_; intro ss bb) | refine ac ?_ | refine ab hG hst (fr hst) ?_ | refine ab hG hst (heq) ?_ | refine g_ (fun hg => ?_) (fun hg => ?_))
      all_goals first
        | (exfalso; exact ho ⟨Decidable.of_not_not (by assumption), Decidable.of_not_not (by assumption), hfe⟩)
        | (exact r1_)
     ·rw [decide_eq_false hfe] at heq
      repeat' (first | refine W_ ?_ | (refine aj ?_; intro ss bb) | refine ac ?_ | refine ab hG hst (fr hst) ?_ | refine ab hG hst (heq) ?_ | refine g_ (fun hg => ?_) (fun hg => ?_))
      all_goals
        exact r1_
   ·rw [ma hlow] at hbad hks
    obtain ⟨nm, par, fs⟩ := x
    dsimp only at hra hbi hbad hks
    have hx1 : nm.size <= 1048576 := hbi.1
    have hx2 : fs.length <= 1048576 := hbi.2.1
    have hx3 : ∀ y ∈ fs, ByteArray.size y <= 1048576 := hbi.2.2
    have hfl := aZ fs
    clear hbl
    repeat' (first | refine H_ 10 ?_ | (refine aj ?_; intro ss bb) | refine ac ?_)
    refine ⟨dp ?_⟩
    generalize ss = s3; generalize bb = b3
    apply fh (X := Unit) [0, 3, 4, 15, 16, 17] (fun _ => [(70, .bool (!decide (cV l i ⟨nm, par, fs⟩)))]) (fun _ => [(s3, b3, .box [.str nm, .int .i64 par, .sl lo 1 (a8 fs)])]) (fun _ => True)
    case hk => (repeat (first | exact jq.nil | (apply jq.cons; rfl)))
    ·repeat' (first | refine W_ ?_ | refine ab hG hst (gM _ hx1) ?_ | refine ab hG hst (aN _ _ _) ?_ | refine g_ (fun hg => ?_) (fun hg => ?_))
     all_goals
       refine dV () trivial (.of _ (dg.envCons (j2 rfl ?_) dg.envNil) od_ pk_)
       clear hbad hks hk hra hbi
       simp only [Bool.not_eq_true', Bool.not_eq_false', inR, decide_eq_true_eq, decide_eq_false_iff_not] at *
       by_cases h8 : (8 : Int) < (fs.length : Int)
       all_goals (try simp only [h8, decide_true, decide_false])
       all_goals first
         | (have : cV l i ⟨nm, par, fs⟩ := ⟨by assumption, by dsimp only; omega, by dsimp only; omega, by dsimp only; omega⟩
            simp only [decide_eq_true this, Bool.not_true]
            done)
         | (have : ¬ cV l i ⟨nm, par, fs⟩ := fun h => by
              obtain ⟨h1, h2, h3, h4⟩ := h
              dsimp only at h1 h2 h3 h4
              first
                | omega
                | (simp only [h1] at *; done)
                | (simp_all; done)
            simp only [decide_eq_false this, Bool.not_false]
            done)
    intro _ _
    by_cases hh : cV l i ⟨nm, par, fs⟩
    ·rw [decide_eq_true hh, Bool.not_true]
     have hh2 := hh.2
     obtain ⟨⟨hp0, hp1⟩, _, hf8⟩ := hh2
     dsimp only at hp0 hp1 hf8
     obtain ⟨p, rfl⟩ : ∃ p : Nat, par = p := ⟨par.toNat, by omega⟩
     have hpl : p < l.length := by omega
     have hrp : (l.map (aa.tw lo))[p]? = some (l[p].tw lo) := aM hpl
     have hbp := hsm.2 _ (List.getElem_mem hpl)
     have hpf := iI (x := ⟨nm, (p : Int), fs⟩) rfl (List.getElem?_eq_getElem hpl)
     generalize l[p] = y at hrp hbp hpf
     obtain ⟨pn, pp, pf⟩ := y
     replace hrp : (l.map (aa.tw lo))[p]? = some [.str pn, .int .i64 pp, .sl lo 1 (a8 pf)] := hrp
     have hx4 : pf.length <= 1048576 := hbp.2.1
     have hpl2 := aZ pf
     have htl : ((l.map (aa.tw lo)).take i).length = i := by simp; omega
     repeat' (first | refine W_ ?_ | refine y9 ?_)
     apply ak (X := Nat) [0, 3, 4, 15, 16, 17, 73, 74] (fun k => [(75, .int .i64 (k : Int))]) (fun _ => [(s3, b3, .box [.str nm, .int .i64 (p : Int), .sl lo 1 (a8 fs)])]) (fun k => k <= i /\ ∀ y ∈ l.take k, y.name ≠ nm) (fun k => i - k) 0 ⟨Nat.zero_le _, by simp⟩
     exact kp_; exact nw_
     ·exact .refl _
     rintro k ⟨hki, hkn⟩
     try dsimp only
     by_cases hlk : k < i
     ·have hlk2 : k < l.length := by omega
      have hrk : ((l.map (aa.tw lo)).take i)[k]? = some (l[k].tw lo) := by rw [List.getElem?_take_of_lt hlk]; exact aM hlk2
      have hta := aV (p := fun y : aa => y.name ≠ nm) hlk2 hkn
      have hmem : l[k] ∈ l.take i := List.mem_take_iff_getElem.2 ⟨k, by omega, rfl⟩
      generalize l[k] = z at hrk hta hmem
      obtain ⟨zn, zp, zf⟩ := z
      replace hrk : ((l.map (aa.tw lo)).take i)[k]? = some [.str zn, .int .i64 zp, .sl lo 1 (a8 zf)] := hrk
      by_cases hzn : zn = nm
      ·rw [hbad fun h => h.2.1 _ hmem hzn]
       repeat' (first | refine W_ ?_ | (refine aj ?_; intro ss bb) | refine ac ?_)
       exact r1_
      ·repeat' (first | refine W_ ?_ | (refine aj ?_; intro ss bb) | refine ac ?_)
       exact ag (k + 1) ⟨by omega, hta hzn⟩ (by omega) (.of _ nw_ od_ pk_)
     ·obtain rfl : k = i := by omega
      clear hlk
      by_cases hhe : pf.length <= fs.length /\ fs.take pf.length = pf
      ·have heq := fN (G := G) lo lo (fs.take pf.length) pf (by simp; omega) hx4
       rw [decide_eq_true hhe.2] at heq
       have hsl : (a8 fs).take pf.length = a8 (fs.take pf.length) := by simp [a8, List.map_take]
       have hle := hhe.1
       repeat' (first | refine W_ ?_ | refine y9 ?_ | refine ab hG hst (heq) ?_)
       apply ak (X := Nat) [0, 3, 4, 8, 15, 16, 17, 108, 109] (fun k => [(110, .int .i64 (k : Int))]) (fun _ => [(s3, b3, .box [.str nm, .int .i64 (p : Int), .sl lo 1 (a8 fs)])]) (fun k => k <= fs.length /\ ∀ j, j < k -> ∀ h : j < fs.length, fieldAt fs j fs[j] = true) (fun k => fs.length - k) 0 ⟨Nat.zero_le _, by omega⟩
       exact kp_; exact nw_
       ·exact .refl _
       rintro q ⟨hq, hqa⟩
       try dsimp only
       by_cases hqf : q < fs.length
       ·have hfr := dH hqf
        have hqs := hx3 _ (List.getElem_mem hqf)
        have hqb := lO hqf
        have hqn : fieldAt fs q fs[q] = true -> ∀ j, j < q + 1 -> ∀ h : j < fs.length, fieldAt fs j fs[j] = true := fun h => bS hqa fun _ => h
        generalize fs[q] = f at hfr hqs hqb hqn
        have hname := gM (G := G) f hqs
        have hhas := lz (G := G) hst lo (fs.take q) f (by simp; omega)
        rw [abD] at hhas
        have hsq : (a8 fs).take q = a8 (fs.take q) := by simp [a8, List.map_take]
        have hqle : q <= fs.length := hq
        by_cases hqo : fieldAt fs q f = true
        ·have hqo2 := hqo
         unfold fieldAt at hqo2
         rw [Bool.and_eq_true, Bool.not_eq_true'] at hqo2
         rw [hqo2.1] at hname
         rw [hqo2.2] at hhas
         repeat' (first | refine W_ ?_ | refine y9 ?_ | refine ab hG hst (hname) ?_ | refine ab hG hst (hhas) ?_)
         exact ag (q + 1) ⟨by omega, hqn hqo⟩ (by omega) (.of _ nw_ od_ pk_)
        ·rw [hbad fun h => hqb (Bool.eq_false_iff.2 hqo) h.2.2.2]
         by_cases hqs1 : bT f.data.toList = true
         ·have hqs2 : ij (fs.take q) f = true := by
            unfold fieldAt at hqo
            rw [hqs1, Bool.true_and] at hqo
            simpa using hqo
          rw [hqs1] at hname
          rw [hqs2] at hhas
          repeat' (first | refine W_ ?_ | refine y9 ?_ | refine ab hG hst (hname) ?_ | refine ab hG hst (hhas) ?_)
          exact r1_
         ·rw [Bool.eq_false_iff.2 hqs1] at hname
          repeat' (first | refine W_ ?_ | refine ab hG hst (hname) ?_)
          exact r1_
       ·obtain rfl : q = fs.length := by omega
        repeat' refine W_ ?_
        exact ag (k + 1) ⟨by omega, hks ⟨hh, hkn, ⟨by rw [hpf]; exact hhe.1, by rw [hpf]; exact hhe.2⟩, fun j hj => hqa j hj hj⟩⟩ (by omega) (.of _ nw_ od_ (de.nil _))
      ·rw [hbad fun h => hhe (by have := h.2.2.1; unfold abI at this; rw [hpf] at this; exact this)]
       by_cases hle : pf.length <= fs.length
       ·have heq := fN (G := G) lo lo (fs.take pf.length) pf (by simp; omega) hx4
        rw [decide_eq_false fun h => hhe ⟨hle, h⟩] at heq
        have hsl : (a8 fs).take pf.length = a8 (fs.take pf.length) := by simp [a8, List.map_take]
        repeat' (first | refine W_ ?_ | refine y9 ?_ | refine ab hG hst (heq) ?_)
        exact r1_
       ·repeat' refine W_ ?_
        exact r1_
    ·rw [decide_eq_false hh, Bool.not_false, hbad fun h => hh h.1]
     repeat' refine W_ ?_
     exact r1_
  ·rw [jv hl fun j hj => hk j (by omega)]
   repeat' refine W_ ?_
   exact r1_
 ·rw [ab3 (by omega)] at hwi
  rw [ky hl]
  repeat' (first | refine W_ ?_ | refine ab hG hst (hwi) ?_)
  exact r1_
end
end Go.Proofs.YtofnnnpahglfdaaGreatDoor
