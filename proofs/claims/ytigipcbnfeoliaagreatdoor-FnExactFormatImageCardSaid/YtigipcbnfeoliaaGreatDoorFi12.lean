/- Part 12 of the proof: the texts IvB, IvC, IvD, IvE, IvP, IvF, IvH. -/
import Derived.Test.YtigipcbnfeoliaaGreatDoorFi3
import Derived.Test.YtigipcbnfeoliaaGreatDoorFi8
import Derived.Test.YtigipcbnfeoliaaGreatDoorFi7
import Derived.Test.YtigipcbnfeoliaaGreatDoorFi4
set_option linter.all false
set_option maxHeartbeats 4000000
set_option maxRecDepth 20000
namespace Go.Proofs.YtigipcbnfeoliaaGreatDoor
open Go Go.RowKit
theorem sf {i : Nat} {x : aa} (hx : bI[i]? = some x) : ((i = 0 -> x.parent = -1) /\ (i = 2 -> x.parent = 1) /\ (i = 3 -> x.parent = 2) /\ (i = 4 -> x.parent = 2) /\ (i ≠ 0 -> i ≠ 2 -> i ≠ 3 -> i ≠ 4 -> x.parent = 0)) /\ (i < 16) := by
 have hi : i < 16 := by
   have := (List.getElem?_eq_some_iff.1 hx).1
   rwa [fH] at this
 refine ⟨?_, hi⟩
 match i, hi, hx with
 | 0, _, hx => cases hx; simp
 | 1, _, hx => cases hx; simp
 | 2, _, hx => cases hx; simp
 | 3, _, hx => cases hx; simp
 | 4, _, hx => cases hx; simp
 | 5, _, hx => cases hx; simp
 | 6, _, hx => cases hx; simp
 | 7, _, hx => cases hx; simp
 | 8, _, hx => cases hx; simp
 | 9, _, hx => cases hx; simp
 | 10, _, hx => cases hx; simp
 | 11, _, hx => cases hx; simp
 | 12, _, hx => cases hx; simp
 | 13, _, hx => cases hx; simp
 | 14, _, hx => cases hx; simp
 | 15, _, hx => cases hx; simp
 | n + 16, h, _ => omega
def rI (lo : Nat) : List ByteArray -> TV
 | [] => .nils
 | a :: l => .sl lo 1 (aT (a :: l))
def aa.twN (lo : Nat) (x : aa) : List TV := [.str x.name, .int .i64 x.parent, rI lo x.fields]
theorem vk (B K : Nat) (objs : aF) : ∀ l : List ByteArray, Fin B objs K (rI B l) (.sl K 1 (aT l))
 | [] => .nils 1
 | a :: l => ck (f := fun s : ByteArray => [TV.str s]) (f' := fun s : ByteArray => [TV.str s]) (fun x => .cons (.flat rfl) .nil) (a :: l)
theorem aa.finN (B K : Nat) (objs : aF) (x : aa) : iM B objs K (x.twN B) (x.tw K) := .cons (.flat rfl) (.cons (.flat rfl) (.cons (vk B K objs x.fields) .nil))
section
variable {G : World -> Prop}
theorem fQ (hst : aC G) : Ct Tryz.prog G 261 [] (fun K => .sl K 3 (bI.map (aa.tw K))) := by
 refine aq Tryz.func261 rfl Tryz.ntmps261 rfl rfl fun w0 _ hG => ?_
 have hlen : (aT cA).length = 16 := rfl
 have hbl : cA.length = 16 := rfl
 repeat' (first | refine W_ ?_ | refine ac hG hst (pY) ?_ | (refine la ?_; intro ss bb))
 apply ai (X := Nat × Nat) [6, 7] (fun x => [(8, .int .i64 (x.1 : Int)), (1, .ms ss x.2 0 x.1)]) (fun x => [(ss, x.2, .row 3 ((bI.take x.1).map (aa.twN w0.heap.size)))]) (fun x => x.1 <= 16) (fun x => 16 - x.1) (0, bb) (Nat.zero_le _)
 exact kp_; exact nw_
 ·exact .refl _
 rintro ⟨i, b⟩ hi
 dsimp only at hi |-
 by_cases hlt : i < 16
 ·obtain ⟨x, hx, h1, _, h3, h4⟩ := jq hlt
  obtain ⟨hp, _⟩ := sf hx
  have hle : ((bI.take i).map (aa.twN w0.heap.size)).length = i := by rw [List.length_map, List.length_take, fH]; omega
  by_cases hf : 1 <= i /\ i <= 4
  ·have hin : inR (i : Int) 1 4 = true := by unfold inR; simp; omega
   have hw : Ct Tryz.prog G 47 [.int .i64 i, .int .i64 1, .int .i64 4] (fun _ => .bool true) := by rw [<- hin]; exact aK _ _ _
   have hbf : il (i : Int) = [⟨#[116, 101, 120, 116]⟩] := if_pos (by omega)
   rw [hbf] at h3
   have hrow : ∀ p : Int, p = x.parent -> (bI.take i).map (aa.twN w0.heap.size) ++ [[TV.str x.name, .int .i64 p, .sl w0.heap.size 1 [[TV.str ⟨#[116, 101, 120, 116]⟩]]]] = (bI.take (i + 1)).map (aa.twN w0.heap.size) := fun p h => by
     rw [h4, List.map_append, h]; show _ ++ _ = _ ++ [[_, _, rI w0.heap.size x.fields]]; rw [<- h3]; rfl
   clear h4
   repeat' (first | refine W_ ?_ | (refine ak ?_; intro ss bb) | refine j6 ?_ | refine ae ?_ | refine ac hG hst (hw) ?_ | refine ch ?_ | (refine tQ ?_; intro bb) | refine c_ (fun hc => ?_) (fun hc => ?_) | refine g_ (fun hg => ?_) (fun hg => ?_))
   all_goals
     rw [hrow]
     ·exact ah (i + 1, bb) (by dsimp only; omega) (by dsimp only; omega) (.of _ nw_ od_ pk_)
     ·omega
  ·have hin : inR (i : Int) 1 4 = false := by unfold inR; simp; omega
   have hw : Ct Tryz.prog G 47 [.int .i64 i, .int .i64 1, .int .i64 4] (fun _ => .bool false) := by rw [<- hin]; exact aK _ _ _
   have hbf : il (i : Int) = [] := if_neg (by omega)
   rw [hbf] at h3
   have hrow : ∀ p : Int, p = x.parent -> (bI.take i).map (aa.twN w0.heap.size) ++ [[TV.str x.name, .int .i64 p, .nils]] = (bI.take (i + 1)).map (aa.twN w0.heap.size) := fun p h => by
     rw [h4, List.map_append, h]; show _ ++ _ = _ ++ [[_, _, rI w0.heap.size x.fields]]; rw [<- h3]; rfl
   clear h4
   repeat' (first | refine W_ ?_ | (refine ak ?_; intro ss bb) | refine j6 ?_ | refine ae ?_ | refine ac hG hst (hw) ?_ | refine ch ?_ | (refine tQ ?_; intro bb) | refine c_ (fun hc => ?_) (fun hc => ?_))
   all_goals
     rw [hrow]
     ·exact ah (i + 1, bb) (by dsimp only; omega) (by dsimp only; omega) (.of _ nw_ od_ pk_)
     ·omega
 ·obtain rfl : i = 16 := by omega
  repeat' refine W_ ?_
  refine aD x_ rfl (.tmp _ _ rfl) (fun _ => ?_)
  exact aa3 (f' := aa.tw _) (fun x => aa.finN _ _ _ x) List.mem_cons_self
end
theorem tq {l : List ByteArray} {s : ByteArray} {i : Nat} (h : i < l.length) (e : l[i] = s) : j0 l s = true := by
 unfold j0
 exact List.any_eq_true.2 ⟨_, List.getElem_mem h, by simp [e]⟩
theorem qt {l : List ByteArray} {s : ByteArray} (h : ∀ y ∈ l, y ≠ s) : j0 l s = false := by
 unfold j0
 exact List.any_eq_false.2 fun y hy hb => h y hy (ByteArray.ext (Array.toList_inj.1 (by simpa [Lib.toList_data] using hb)))
theorem mK {a b : List ByteArray} {i : Nat} (ha : i < a.length) (hb : i < b.length) (h : a.take i = b.take i) (e : a[i] = b[i]) : a.take (i + 1) = b.take (i + 1) := by
 rw [List.take_add_one, List.take_add_one, h, List.getElem?_eq_getElem ha, List.getElem?_eq_getElem hb, e]
section
variable {G : World -> Prop}
theorem xr (lo : Nat) (l : List ByteArray) (s : ByteArray) (hn : l.length <= 1048576) : Ct Tryz.prog G 234 [.sl lo 1 (aT l), .str s] (fun _ => .bool (j0 l s)) := by
 refine aq Tryz.func234 rfl Tryz.ntmps234 rfl rfl fun w0 _ hG => ?_
 have hlen := aG l
 repeat' refine W_ ?_
 apply ai (X := Nat) [0, 1] (fun i => [(5, .int .i64 (i : Int))]) (fun _ => []) (fun i => i <= l.length /\ ∀ y ∈ l.take i, y ≠ s) (fun i => l.length - i) 0 ⟨Nat.zero_le _, by simp⟩
 exact kp_; exact nw_
 ·exact .refl _
 rintro i ⟨hi, hs⟩
 try dsimp only
 by_cases hlt : i < l.length
 ·have hrow := cB hlt
  have hta := aY (p := fun y => y ≠ s) hlt hs
  have htr := tq (s := s) hlt
  generalize l[i] = x at hrow hta htr
  by_cases hx : x = s
  ·rw [htr hx]
   repeat' refine W_ ?_
   exact r1_
  ·repeat' refine W_ ?_
   exact ah (i + 1) ⟨by omega, hta hx⟩ (by omega) (.of _ nw_ od_ pk_)
 ·rw [List.take_of_length_le (by omega)] at hs
  rw [qt hs]
  repeat' refine W_ ?_
  exact r1_
theorem jw (l1 l2 : Nat) (a b : List ByteArray) (hn : a.length <= 1048576) (hm : b.length <= 1048576) : Ct Tryz.prog G 191 [.sl l1 1 (aT a), .sl l2 1 (aT b)] (fun _ => .bool (decide (a = b))) := by
 refine aq Tryz.func191 rfl Tryz.ntmps191 rfl rfl fun w0 _ hG => ?_
 have hla := aG a
 have hlb := aG b
 by_cases hl : a.length = b.length
 ·repeat' refine W_ ?_
  apply ai (X := Nat) [0, 1] (fun i => [(5, .int .i64 (i : Int))]) (fun _ => []) (fun i => i <= a.length /\ a.take i = b.take i) (fun i => a.length - i) 0 ⟨Nat.zero_le _, by simp⟩
  exact kp_; exact nw_
  ·exact .refl _
  rintro i ⟨hi, hs⟩
  try dsimp only
  by_cases hlt : i < a.length
  ·have hr1 := cB hlt
   have hlt2 : i < b.length := by omega
   have hr2 := cB hlt2
   have hta := mK hlt hlt2 hs
   have hne : a[i] ≠ b[i] -> decide (a = b) = false := fun h => decide_eq_false fun e => h (by subst e; rfl)
   generalize a[i] = x at hr1 hta hne
   generalize b[i] = y at hr2 hta hne
   by_cases hx : x = y
   ·have hx' : ¬ x ≠ y := fun h => h hx
    repeat' refine V_ ?_
    exact ah (i + 1) ⟨by omega, hta hx⟩ (by omega) (.of _ nw_ od_ pk_)
   ·have hx' : x ≠ y := hx
    rw [hne hx]
    repeat' refine V_ ?_
    exact r1_
  ·rw [List.take_of_length_le (by omega), List.take_of_length_le (by omega)] at hs
   rw [decide_eq_true hs]
   repeat' refine W_ ?_
   exact r1_
 ·rw [decide_eq_false (p := a = b) fun e => hl (by rw [e])]
  repeat' refine W_ ?_
  exact r1_
theorem gq (l1 l2 : Nat) (a b : List ByteArray) (hn : a.length <= 1048576) (hm : b.length <= 1048576) : Ct Tryz.prog G 262 [.sl l1 1 (aT a), .sl l2 1 (aT b)] (fun _ => .bool (decide (a = b))) := by
 refine aq Tryz.func262 rfl Tryz.ntmps262 rfl rfl fun w0 _ hG => ?_
 have hla := aG a
 have hlb := aG b
 by_cases hl : a.length = b.length
 ·repeat' refine W_ ?_
  apply ai (X := Nat) [0, 1, 12] (fun i => [(13, .int .i64 (i : Int))]) (fun _ => []) (fun i => i <= a.length /\ a.take i = b.take i) (fun i => a.length - i) 0 ⟨Nat.zero_le _, by simp⟩
  exact kp_; exact nw_
  ·exact .refl _
  rintro i ⟨hi, hs⟩
  try dsimp only
  by_cases hlt : i < a.length
  ·have hr1 := cB hlt
   have hlt2 : i < b.length := by omega
   have hr2 := cB hlt2
   have hta := mK hlt hlt2 hs
   have hne : a[i] ≠ b[i] -> decide (a = b) = false := fun h => decide_eq_false fun e => h (by subst e; rfl)
   generalize a[i] = x at hr1 hta hne
   generalize b[i] = y at hr2 hta hne
   by_cases hx : x = y
   ·have hx' : ¬ x ≠ y := fun h => h hx
    repeat' refine V_ ?_
    exact ah (i + 1) ⟨by omega, hta hx⟩ (by omega) (.of _ nw_ od_ pk_)
   ·have hx' : x ≠ y := hx
    rw [hne hx]
    repeat' refine V_ ?_
    exact r1_
  ·rw [List.take_of_length_le (by omega), List.take_of_length_le (by omega)] at hs
   rw [decide_eq_true hs]
   repeat' refine W_ ?_
   exact r1_
 ·rw [decide_eq_false (p := a = b) fun e => hl (by rw [e])]
  repeat' refine W_ ?_
  exact r1_
end
def acb (l : List ByteArray) (s : ByteArray) : Int := if j0 l s then (l.findIdx (fun y => decide (y = s)) : Nat) else -1
theorem ad0 {l : List ByteArray} {s : ByteArray} {i : Nat} (h : i < l.length) (e : l[i] = s) (hb : ∀ y ∈ l.take i, y ≠ s) : acb l s = i := by
 unfold acb
 rw [if_pos (tq h e), (List.findIdx_eq (p := fun y => decide (y = s)) h).2 ⟨by simp [e], fun j hj => ?_⟩]
 refine decide_eq_false (hb _ ?_)
 exact List.mem_take_iff_getElem.2 ⟨j, by omega, rfl⟩
theorem aa7 {l : List ByteArray} {s : ByteArray} (h : ∀ y ∈ l, y ≠ s) : acb l s = -1 := by
 unfold acb
 rw [qt h]; rfl
section
variable {G : World -> Prop}
theorem gR (s : ByteArray) (hs : s.size <= 1048576) : Ct Tryz.prog G 263 [.str s] (fun _ => .bool (cq s.data.toList)) := ic fun w _ => (eR s w hs).mono fun _ _ h => ⟨h.1, vI h.2⟩
theorem wv (s : ByteArray) (hs : s.size <= 1048576) : Ct Tryz.prog G 255 [.str s] (fun _ => .bool (bO s.data.toList)) := ic fun w _ => (fg s w hs).mono fun _ _ h => ⟨h.1, vI h.2⟩
theorem yr : Ct Tryz.prog G 256 [] (fun K => .sl K 1 (aT fl)) := by
 refine aq Tryz.func256 rfl Tryz.ntmps256 rfl rfl fun w0 _ hG => ?_
 repeat' (first | refine W_ ?_ | refine ch ?_)
 refine aD (r1 := .tmp 0) (t1 := .sl w0.heap.size 1 (aT fl)) (.inr rfl) rfl (.tmp _ _ rfl) (fun _ => ?_)
 exact ck (f := fun s : ByteArray => [TV.str s]) (f' := fun s : ByteArray => [TV.str s]) (fun x => .cons (.flat rfl) .nil) fl
theorem gU (hst : aC G) (s : ByteArray) (hs : s.size <= 1048576) : Ct Tryz.prog G 248 [.str s] (fun _ => .bool (cq s.data.toList)) := by
 refine aq Tryz.func248 rfl Tryz.ntmps248 rfl rfl fun w0 _ hG => ?_
 have hw : fl.length <= 1048576 := by decide
 have hp := wv (G := G) s hs
 rw [show cq s.data.toList = (bO s.data.toList && !j0 fl s) from by rw [lI]; rfl]
 cases h : bO s.data.toList
 all_goals
   rw [h] at hp
   cases h2 : j0 fl s
   all_goals
     have hh := xr (G := G) w0.heap.size fl s hw
     rw [h2] at hh
     repeat' (first | refine W_ ?_ | refine ac hG hst (hp) ?_ | refine ac hG hst (yr) ?_ | refine ac hG hst (hh) ?_)
     exact r1_
theorem pF (lo : Nat) (l : List ByteArray) (s : ByteArray) (hn : l.length <= 1048576) : Ct Tryz.prog G 309 [.sl lo 1 (aT l), .str s] (fun _ => .int .i64 (acb l s)) := by
 refine aq Tryz.func309 rfl Tryz.ntmps309 rfl rfl fun w0 _ hG => ?_
 have hlen := aG l
 repeat' refine W_ ?_
 apply ai (X := Nat) [0, 1, 7] (fun i => [(8, .int .i64 (i : Int))]) (fun _ => []) (fun i => i <= l.length /\ ∀ y ∈ l.take i, y ≠ s) (fun i => l.length - i) 0 ⟨Nat.zero_le _, by simp⟩
 exact kp_; exact nw_
 ·exact .refl _
 rintro i ⟨hi, hs⟩
 try dsimp only
 by_cases hlt : i < l.length
 ·have hrow := cB hlt
  have hta := aY (p := fun y => y ≠ s) hlt hs
  have htr : l[i] = s -> acb l s = i := fun e => ad0 hlt e hs
  generalize l[i] = x at hrow hta htr
  by_cases hx : x = s
  ·rw [htr hx]
   have hx2 : s = x := hx.symm
   repeat' refine W_ ?_
   exact r1_
  ·have hx2 : ¬ s = x := fun e => hx e.symm
   repeat' refine W_ ?_
   exact ah (i + 1) ⟨by omega, hta hx⟩ (by omega) (.of _ nw_ od_ pk_)
 ·rw [List.take_of_length_le (by omega)] at hs
  rw [aa7 hs]
  repeat' refine W_ ?_
  exact r1_
theorem ml (hst : aC G) (lo : Nat) (l : List ByteArray) (s : ByteArray) (hn : l.length <= 1048576) : Ct Tryz.prog G 264 [.sl lo 1 (aT l), .str s] (fun _ => .bool (decide (acb l s ≥ 0))) := by
 refine aq Tryz.func264 rfl Tryz.ntmps264 rfl rfl fun w0 _ hG => ?_
 repeat' (first | refine W_ ?_ | refine ac hG hst (pF lo l s hn) ?_)
 exact r1_
theorem acq (l : List ByteArray) (s : ByteArray) : decide (acb l s ≥ 0) = j0 l s := by
 unfold acb
 cases j0 l s
 ·rfl
 ·rw [if_pos rfl]; exact decide_eq_true (Int.natCast_nonneg _)
end
def oM (s : ByteArray) : Bool := decide (∀ j, j < s.size -> 32 <= bat s j /\ bat s j <= 126) && decide ((s.size : Int) <= 40)
theorem qw {s : ByteArray} {i : Nat} (h : i < s.size) (hb : ¬ (32 <= bat s i /\ bat s i <= 126)) : oM s = false := by
 unfold oM
 rw [decide_eq_false fun hk => hb (hk i h)]; rfl
theorem nZ {s : ByteArray} (h : ∀ j, j < s.size -> 32 <= bat s j /\ bat s j <= 126) : oM s = decide ((s.size : Int) <= 40) := by
 unfold oM
 rw [decide_eq_true h]; rfl
theorem ca {p : Nat -> Prop} {i : Nat} (h : ∀ j, j < i -> p j) (hi : p i) : ∀ j, j < i + 1 -> p j := fun j hj => by
 rcases Nat.lt_or_ge j i with hk | hk
 ·exact h j hk
 ·obtain rfl : j = i := by omega
  exact hi
section
variable {G : World -> Prop}
theorem vc (s : ByteArray) (hs : s.size <= 1048576) : Ct Tryz.prog G 299 [.str s] (fun _ => .bool (oM s)) := by
 refine aq Tryz.func299 rfl Tryz.ntmps299 rfl rfl fun w0 _ hG => ?_
 repeat' refine W_ ?_
 apply ai (X := Nat) [0] (fun i => [(3, .int .i64 (i : Int))]) (fun _ => []) (fun i => i <= s.size /\ ∀ j, j < i -> 32 <= bat s j /\ bat s j <= 126) (fun i => s.size - i) 0 ⟨Nat.zero_le _, by simp⟩
 exact kp_; exact nw_
 ·exact .refl _
 rintro i ⟨hi, hk⟩
 try dsimp only
 by_cases hlt : i < s.size
 ·have hb := wO s i
  by_cases hx : 32 <= bat s i /\ bat s i <= 126
  ·repeat' refine W_ ?_
   exact ah (i + 1) ⟨by omega, ca hk hx⟩ (by omega) (.of _ nw_ od_ pk_)
  ·rw [qw hlt hx]
   repeat' (first | refine W_ ?_ | refine g_ (fun hg => ?_) (fun hg => ?_))
   all_goals first
     | (exfalso; omega)
     | (exact r1_)
 ·rw [nZ fun j hj => hk j (by omega)]
  repeat' refine W_ ?_
  exact r1_
theorem tA (hst : aC G) (s : ByteArray) (hs : s.size <= 1048576) : Ct Tryz.prog G 273 [.str s] (fun _ => .bool (oM s)) := by
 refine aq Tryz.func273 rfl Tryz.ntmps273 rfl rfl fun w0 _ hG => ?_
 repeat' refine W_ ?_
 apply ai (X := Nat) [0] (fun i => [(3, .int .i64 (i : Int))]) (fun _ => []) (fun i => i <= s.size /\ ∀ j, j < i -> 32 <= bat s j /\ bat s j <= 126) (fun i => s.size - i) 0 ⟨Nat.zero_le _, by simp⟩
 exact kp_; exact nw_
 ·exact .refl _
 rintro i ⟨hi, hk⟩
 try dsimp only
 by_cases hlt : i < s.size
 ·have hb := wO s i
  by_cases hx : 32 <= bat s i /\ bat s i <= 126
  ·have hw : Ct Tryz.prog G 47 [.int .i64 (bat s i), .int .i64 32, .int .i64 126] (fun _ => .bool true) := by rw [<- show inR (bat s i) 32 126 = true from by unfold inR; simp; omega]; exact aK _ _ _
   repeat' (first | refine W_ ?_ | refine ac hG hst (hw) ?_)
   exact ah (i + 1) ⟨by omega, ca hk hx⟩ (by omega) (.of _ nw_ od_ pk_)
  ·have hw : Ct Tryz.prog G 47 [.int .i64 (bat s i), .int .i64 32, .int .i64 126] (fun _ => .bool false) := by rw [<- show inR (bat s i) 32 126 = false from by unfold inR; simp; omega]; exact aK _ _ _
   rw [qw hlt hx]
   repeat' (first | refine W_ ?_ | refine ac hG hst (hw) ?_)
   exact r1_
 ·rw [nZ fun j hj => hk j (by omega)]
  repeat' refine W_ ?_
  exact r1_
end
def fieldAt (f : List ByteArray) (k : Nat) (s : ByteArray) : Bool := cq s.data.toList && !j0 (f.take k) s
def rk (f : List ByteArray) : Prop := ∀ (k : Nat) (h : k < f.length), fieldAt f k f[k] = true
def db (l : List aa) (i : Nat) (x : aa) : Prop :=
 cq x.name.data.toList = true /\ (0 <= x.parent /\ x.parent < i) /\ ¬ (5 <= x.parent /\ x.parent <= 15) /\ x.fields.length <= 8
instance (l : List aa) (i : Nat) (x : aa) : Decidable (db l i x) := by unfold db; infer_instance
def uc (l : List aa) (i : Nat) (x : aa) : Prop := ∀ y ∈ l.take i, y.name ≠ x.name
def fi (l : List aa) (x : aa) : List ByteArray := match l[x.parent.toNat]? with
 | some p => p.fields
 | none => []
def abX (l : List aa) (x : aa) : Prop := (fi l x).length <= x.fields.length /\ x.fields.take (fi l x).length = fi l x
def en (l : List aa) (i : Nat) (x : aa) : Prop :=
 if i < 16 then ∃ b, bI[i]? = some b /\ x.name = b.name /\ x.parent = b.parent /\ x.fields = b.fields
 else db l i x /\ uc l i x /\ abX l x /\ rk x.fields
def qu (l : List aa) : Prop := (16 <= l.length /\ l.length <= 24) /\ ∀ (i : Nat) (h : i < l.length), en l i l[i]
open Classical in
noncomputable def bS (l : List aa) : Bool := decide (qu l)
open Classical in
theorem kx {l : List aa} (h : ¬ (16 <= l.length /\ l.length <= 24)) : bS l = false := decide_eq_false fun k => h k.1
open Classical in
theorem lb {l : List aa} {i : Nat} (h : i < l.length) (hb : ¬ en l i l[i]) : bS l = false := decide_eq_false fun k => hb (k.2 i h)
open Classical in
theorem jJ {l : List aa} (hl : 16 <= l.length /\ l.length <= 24) (h : ∀ j, j < l.length -> ∀ h : j < l.length, en l j l[j]) : bS l = true := decide_eq_true ⟨hl, fun i hi => h i hi hi⟩
theorem nV {l : List aa} {i : Nat} {x b : aa} (h : i < 16) (hb : bI[i]? = some b) : en l i x ↔ x.name = b.name /\ x.parent = b.parent /\ x.fields = b.fields := by
 unfold en
 rw [if_pos h]
 constructor
 ·rintro ⟨c, hc, k⟩
  rw [hb] at hc; cases hc; exact k
 ·exact fun k => ⟨b, hb, k⟩
theorem mw {l : List aa} {i : Nat} {x : aa} (h : ¬ i < 16) : en l i x ↔ db l i x /\ uc l i x /\ abX l x /\ rk x.fields := by
 unfold en
 rw [if_neg h]
theorem ji {l : List aa} {x p : aa} {k : Nat} (h : x.parent = k) (hp : l[k]? = some p) : fi l x = p.fields := by
 unfold fi
 rw [h, Int.toNat_natCast, hp]
theorem mG {f : List ByteArray} {k : Nat} (h : k < f.length) (hb : fieldAt f k f[k] = false) : ¬ rk f := fun a => by
 have := a k h
 rw [hb] at this; cases this
theorem tb {G : World -> Prop} (op : Int) : Ct Tryz.prog G 270 [.int .i64 op] (fun _ => .tup [.bool (acJ op), .bool (acT op), .bool (acM op)]) := by
 refine aq Tryz.func270 rfl Tryz.ntmps270 rfl rfl fun w0 _ hG => ?_
 repeat' (first | with_reducible refine cW rfl ?_ | ((with_reducible apply o_y); exact y_; rfl) | with_reducible refine dv ?_ | with_reducible refine cn ?_ | with_reducible refine fR ?_ | with_reducible refine dU ?_ | with_reducible refine cI ?_ | with_reducible refine dZ ?_ | with_reducible refine dY ?_ | with_reducible refine fW ?_ | with_reducible refine bD ?_ | with_reducible refine bp rfl ?_ | with_reducible refine bC ?_ | with_reducible refine bK ?_ | with_reducible refine bA ?_ | with_reducible refine da ?_ | with_reducible refine cW rfl ?_ | refine iO rfl rfl rfl rr_ ?_ | refine fY rfl rfl rfl rr_ rfl rfl rfl ?_ | refine et rfl rfl rfl rr_ rfl rfl ?_ | (refine oX rfl rfl rfl rr_ dd_ ?_) | (refine oE rfl rfl rfl rr_ dd_ ?_) | (refine dN rfl rfl rfl rr_ (fun hg => ?_) (fun hg => ?_)) | (refine dp rfl rfl rfl rr_ (fun hg => ?_) (fun hg => ?_)) | refine cr rfl rr_ ?_ | refine cm rfl rr_ ?_ | (refine bV rfl rr_ dd_ ?_) | (refine bU rfl rr_ dd_ ?_) | (refine eh rfl rr_ (fun hc => ?_) (fun hc => ?_)) | (refine df rfl rr_ (fun hc => ?_) (fun hc => ?_)))
 all_goals
   refine zN x_ rfl (.tmp _ _ rfl) (.tmp _ _ rfl) (.tmp _ _ rfl) (fun _ => ?_) (fun _ => ?_) (fun _ => ?_)
   all_goals
     refine aI ?_
     simp only [acJ, acT, acM]
     symm
     first | (rw [decide_eq_true_iff]; omega) | (rw [decide_eq_false_iff_not]; omega)
section
variable {G : World -> Prop}
theorem mW (hst : aC G) (lo : Nat) (l : List aa) (hsm : l.length <= 1048576 /\ ∀ y ∈ l, aa.small 1048576 y) : Ct Tryz.prog G 217 [.sl lo 3 (l.map (aa.tw lo))] (fun _ => .bool (bS l)) := by
 refine aq Tryz.func217 rfl Tryz.ntmps217 rfl rfl fun w0 _ hG => ?_
 have hlen := aa.len lo l
 have hbl := aa.len w0.heap.size bI
 rw [fH] at hbl
 have hl1 := hsm.1
 have hwi := aK (G := G) (l.length : Int) 16 24
 by_cases hl : 16 <= l.length /\ l.length <= 24
 ·rw [ti (by omega)] at hwi
  repeat' (first | refine W_ ?_ | refine ac hG hst (hwi) ?_)
  apply ai (X := Nat) [0, 15, 16] (fun i => [(17, .int .i64 (i : Int))]) (fun _ => []) (fun i => i <= l.length /\ ∀ j, j < i -> ∀ h : j < l.length, en l j l[j]) (fun i => l.length - i) 0 ⟨Nat.zero_le _, by simp⟩
  exact kp_; exact nw_
  ·exact .nil _
  rintro i ⟨hi, hk⟩
  try dsimp only
  by_cases hlt : i < l.length
  ·have hra : (l.map (aa.tw lo))[i]? = some (l[i].tw lo) := aL hlt
   have hbi := hsm.2 _ (List.getElem_mem hlt)
   have hbad := lb hlt
   have hks : en l i l[i] -> ∀ j, j < i + 1 -> ∀ h : j < l.length, en l j l[j] := fun ho => ca hk fun _ => ho
   generalize l[i] = x at hra hbi hbad hks
   rw [show x.tw lo = [.str x.name, .int .i64 x.parent, .sl lo 1 (aT x.fields)] from rfl] at hra
   by_cases hlow : i < 16
   ·obtain ⟨bi, hb, _, _, h3, _⟩ := jq hlow
    have hrb : (bI.map (aa.tw w0.heap.size))[i]? = some [.str bi.name, .int .i64 bi.parent, .sl w0.heap.size 1 (aT bi.fields)] := by rw [List.getElem?_map, hb]; rfl
    rw [nV hlow hb] at hbad hks
    have hbf : bi.fields.length <= 1048576 := by rw [<- h3]; unfold il; split <;> simp
    have heq := gq (G := G) lo w0.heap.size x.fields bi.fields hbi.2.1 hbf
    clear h3
    by_cases ho : x.name = bi.name /\ x.parent = bi.parent /\ x.fields = bi.fields
    ·have n1 : ¬ x.name ≠ bi.name := fun h => h ho.1
     have n2 : ¬ x.parent ≠ bi.parent := fun h => h ho.2.1
     rw [decide_eq_true ho.2.2] at heq
     repeat' (first | refine W_ ?_ | (refine ak ?_; intro ss bb) | refine ae ?_ | refine ac hG hst (fQ hst) ?_ | refine ac hG hst (heq) ?_)
     exact ah (i + 1) ⟨by omega, hks ho⟩ (by omega) (.of _ nw_ od_ (cZ.nil _))
    ·rw [hbad ho]
     clear hks hbad
     by_cases hfe : x.fields = bi.fields
     ·rw [decide_eq_true hfe] at heq
      repeat' (first | refine W_ ?_ | (refine ak ?_; intro ss bb) | refine ae ?_ | refine ac hG hst (fQ hst) ?_ | refine ac hG hst (heq) ?_ | refine g_ (fun hg => ?_) (fun hg => ?_))
      all_goals first
        | (exfalso; exact ho ⟨Decidable.of_not_not (by assumption), Decidable.of_not_not (by assumption), hfe⟩)
        | (exact r1_)
     ·rw [decide_eq_false hfe] at heq
      repeat' (first | refine W_ ?_ | (refine ak ?_; intro ss bb) | refine ae ?_ | refine ac hG hst (fQ hst) ?_ | refine ac hG hst (heq) ?_ | refine g_ (fun hg => ?_) (fun hg => ?_))
      all_goals
        exact r1_
   ·rw [mw hlow] at hbad hks
    obtain ⟨nm, par, fs⟩ := x
    dsimp only at hra hbi hbad hks
    have hx1 : nm.size <= 1048576 := hbi.1
    have hx2 : fs.length <= 1048576 := hbi.2.1
    have hx3 : ∀ y ∈ fs, ByteArray.size y <= 1048576 := hbi.2.2
    have hfl := aG fs
    clear hbl
    repeat' (first | refine H_ 10 ?_ | (refine ak ?_; intro ss bb) | refine ae ?_)
    refine ⟨dv ?_⟩
    generalize ss = s3; generalize bb = b3
    apply fK (X := Unit) [0, 3, 4, 15, 16, 17] (fun _ => [(70, .bool (!decide (db l i ⟨nm, par, fs⟩)))]) (fun _ => [(s3, b3, .box [.str nm, .int .i64 par, .sl lo 1 (aT fs)])]) (fun _ => True)
    case hk => (repeat (first | exact jB.nil | (apply jB.cons; rfl)))
    ·repeat' (first | refine W_ ?_ | refine ac hG hst (gR _ hx1) ?_ | refine ac hG hst (aK _ _ _) ?_ | refine g_ (fun hg => ?_) (fun hg => ?_))
     all_goals
       refine ee () trivial (.of _ (bX.envCons (jZ rfl ?_) bX.envNil) od_ pk_)
       clear hbad hks hk hra hbi
       simp only [Bool.not_eq_true', Bool.not_eq_false', inR, decide_eq_true_eq, decide_eq_false_iff_not] at *
       by_cases h8 : (8 : Int) < (fs.length : Int)
       all_goals (try simp only [h8, decide_true, decide_false])
       all_goals first
         | (have : db l i ⟨nm, par, fs⟩ := ⟨by assumption, by dsimp only; omega, by dsimp only; omega, by dsimp only; omega⟩
            simp only [decide_eq_true this, Bool.not_true]
            done)
         | (have : ¬ db l i ⟨nm, par, fs⟩ := fun h => by
              obtain ⟨h1, h2, h3, h4⟩ := h
              dsimp only at h1 h2 h3 h4
              first
                | omega
                | (simp only [h1] at *; done)
                | (simp_all; done)
            simp only [decide_eq_false this, Bool.not_false]
            done)
    intro _ _
    by_cases hh : db l i ⟨nm, par, fs⟩
    ·rw [decide_eq_true hh, Bool.not_true]
     have hh2 := hh.2
     obtain ⟨⟨hp0, hp1⟩, _, hf8⟩ := hh2
     dsimp only at hp0 hp1 hf8
     obtain ⟨p, rfl⟩ : ∃ p : Nat, par = p := ⟨par.toNat, by omega⟩
     have hpl : p < l.length := by omega
     have hrp : (l.map (aa.tw lo))[p]? = some (l[p].tw lo) := aL hpl
     have hbp := hsm.2 _ (List.getElem_mem hpl)
     have hpf := ji (x := ⟨nm, (p : Int), fs⟩) rfl (List.getElem?_eq_getElem hpl)
     generalize l[p] = y at hrp hbp hpf
     obtain ⟨pn, pp, pf⟩ := y
     replace hrp : (l.map (aa.tw lo))[p]? = some [.str pn, .int .i64 pp, .sl lo 1 (aT pf)] := hrp
     have hx4 : pf.length <= 1048576 := hbp.2.1
     have hpl2 := aG pf
     have htl : ((l.map (aa.tw lo)).take i).length = i := by simp; omega
     repeat' (first | refine W_ ?_ | refine x4 ?_)
     apply ai (X := Nat) [0, 3, 4, 15, 16, 17, 73, 74] (fun k => [(75, .int .i64 (k : Int))]) (fun _ => [(s3, b3, .box [.str nm, .int .i64 (p : Int), .sl lo 1 (aT fs)])]) (fun k => k <= i /\ ∀ y ∈ l.take k, y.name ≠ nm) (fun k => i - k) 0 ⟨Nat.zero_le _, by simp⟩
     exact kp_; exact nw_
     ·exact .refl _
     rintro k ⟨hki, hkn⟩
     try dsimp only
     by_cases hlk : k < i
     ·have hlk2 : k < l.length := by omega
      have hrk : ((l.map (aa.tw lo)).take i)[k]? = some (l[k].tw lo) := by rw [List.getElem?_take_of_lt hlk]; exact aL hlk2
      have hta := aY (p := fun y : aa => y.name ≠ nm) hlk2 hkn
      have hmem : l[k] ∈ l.take i := List.mem_take_iff_getElem.2 ⟨k, by omega, rfl⟩
      generalize l[k] = z at hrk hta hmem
      obtain ⟨zn, zp, zf⟩ := z
      replace hrk : ((l.map (aa.tw lo)).take i)[k]? = some [.str zn, .int .i64 zp, .sl lo 1 (aT zf)] := hrk
      by_cases hzn : zn = nm
      ·rw [hbad fun h => h.2.1 _ hmem hzn]
       repeat' (first | refine W_ ?_ | (refine ak ?_; intro ss bb) | refine ae ?_)
       exact r1_
      ·repeat' (first | refine W_ ?_ | (refine ak ?_; intro ss bb) | refine ae ?_)
       exact ah (k + 1) ⟨by omega, hta hzn⟩ (by omega) (.of _ nw_ od_ pk_)
     ·obtain rfl : k = i := by omega
      clear hlk
      by_cases hhe : pf.length <= fs.length /\ fs.take pf.length = pf
      ·have heq := gq (G := G) lo lo (fs.take pf.length) pf (by simp; omega) hx4
       rw [decide_eq_true hhe.2] at heq
       have hsl : (aT fs).take pf.length = aT (fs.take pf.length) := by simp [aT, List.map_take]
       have hle := hhe.1
       repeat' (first | refine W_ ?_ | refine x4 ?_ | refine ac hG hst (heq) ?_)
       apply ai (X := Nat) [0, 3, 4, 8, 15, 16, 17, 108, 109] (fun k => [(110, .int .i64 (k : Int))]) (fun _ => [(s3, b3, .box [.str nm, .int .i64 (p : Int), .sl lo 1 (aT fs)])]) (fun k => k <= fs.length /\ ∀ j, j < k -> ∀ h : j < fs.length, fieldAt fs j fs[j] = true) (fun k => fs.length - k) 0 ⟨Nat.zero_le _, by omega⟩
       exact kp_; exact nw_
       ·exact .refl _
       rintro q ⟨hq, hqa⟩
       try dsimp only
       by_cases hqf : q < fs.length
       ·have hfr := cB hqf
        have hqs := hx3 _ (List.getElem_mem hqf)
        have hqb := mG hqf
        have hqn : fieldAt fs q fs[q] = true -> ∀ j, j < q + 1 -> ∀ h : j < fs.length, fieldAt fs j fs[j] = true := fun h => ca hqa fun _ => h
        generalize fs[q] = f at hfr hqs hqb hqn
        have hname := gR (G := G) f hqs
        have hhas := ml (G := G) hst lo (fs.take q) f (by simp; omega)
        rw [acq] at hhas
        have hsq : (aT fs).take q = aT (fs.take q) := by simp [aT, List.map_take]
        have hqle : q <= fs.length := hq
        by_cases hqo : fieldAt fs q f = true
        ·have hqo2 := hqo
         unfold fieldAt at hqo2
         rw [Bool.and_eq_true, Bool.not_eq_true'] at hqo2
         rw [hqo2.1] at hname
         rw [hqo2.2] at hhas
         repeat' (first | refine W_ ?_ | refine x4 ?_ | refine ac hG hst (hname) ?_ | refine ac hG hst (hhas) ?_)
         exact ah (q + 1) ⟨by omega, hqn hqo⟩ (by omega) (.of _ nw_ od_ pk_)
        ·rw [hbad fun h => hqb (Bool.eq_false_iff.2 hqo) h.2.2.2]
         by_cases hqs1 : cq f.data.toList = true
         ·have hqs2 : j0 (fs.take q) f = true := by
            unfold fieldAt at hqo
            rw [hqs1, Bool.true_and] at hqo
            simpa using hqo
          rw [hqs1] at hname
          rw [hqs2] at hhas
          repeat' (first | refine W_ ?_ | refine x4 ?_ | refine ac hG hst (hname) ?_ | refine ac hG hst (hhas) ?_)
          exact r1_
         ·rw [Bool.eq_false_iff.2 hqs1] at hname
          repeat' (first | refine W_ ?_ | refine ac hG hst (hname) ?_)
          exact r1_
       ·obtain rfl : q = fs.length := by omega
        repeat' refine W_ ?_
        exact ah (k + 1) ⟨by omega, hks ⟨hh, hkn, ⟨by rw [hpf]; exact hhe.1, by rw [hpf]; exact hhe.2⟩, fun j hj => hqa j hj hj⟩⟩ (by omega) (.of _ nw_ od_ (cZ.nil _))
      ·rw [hbad fun h => hhe (by have := h.2.2.1; unfold abX at this; rw [hpf] at this; exact this)]
       by_cases hle : pf.length <= fs.length
       ·have heq := gq (G := G) lo lo (fs.take pf.length) pf (by simp; omega) hx4
        rw [decide_eq_false fun h => hhe ⟨hle, h⟩] at heq
        have hsl : (aT fs).take pf.length = aT (fs.take pf.length) := by simp [aT, List.map_take]
        repeat' (first | refine W_ ?_ | refine x4 ?_ | refine ac hG hst (heq) ?_)
        exact r1_
       ·repeat' refine W_ ?_
        exact r1_
    ·rw [decide_eq_false hh, Bool.not_false, hbad fun h => hh h.1]
     repeat' refine W_ ?_
     exact r1_
  ·rw [jJ hl fun j hj => hk j (by omega)]
   repeat' refine W_ ?_
   exact r1_
 ·rw [abb (by omega)] at hwi
  rw [kx hl]
  repeat' (first | refine W_ ?_ | refine ac hG hst (hwi) ?_)
  exact r1_
end
end Go.Proofs.YtigipcbnfeoliaaGreatDoor
