/- Part 12 of the proof. -/
import Derived.Test.YtiihihgjiklnoaaGreatDoorRd3
import Derived.Test.YtiihihgjiklnoaaGreatDoorRd8
import Derived.Test.YtiihihgjiklnoaaGreatDoorRd7
import Derived.Test.YtiihihgjiklnoaaGreatDoorRd6
set_option maxHeartbeats 4000000
set_option maxRecDepth 20000
namespace Go.Proofs.YtiihihgjiklnoaaGreatDoor
open Go Go.RowKit
theorem om {i : Nat} {x : aa} (hx : bs[i]? = some x) : ((i = 0 -> x.parent = -1) /\ (i = 2 -> x.parent = 1) /\ (i = 3 -> x.parent = 2) /\ (i = 4 -> x.parent = 2) /\ (i ≠ 0 -> i ≠ 2 -> i ≠ 3 -> i ≠ 4 -> x.parent = 0)) /\ (i < 16) := by
 have hi : i < 16 := by
   have := (List.getElem?_eq_some_iff.1 hx).1
   rwa [eM] at this
 refine ⟨?_, hi⟩
 match i, hi, hx with
 | 0, _, hx => cases hx; simp
 | 1, _, hx => cases hx; simp
 | 2, _, hx => cases hx; simp
 | 3, _, hx => cases hx; simp
 | 4, _, hx => cases hx; simp
 | 5, _, hx => cases hx; simp
 | 6, _, hx => cases hx; simp
 | 7, _, hx => cases hx; simp
 | 8, _, hx => cases hx; simp
 | 9, _, hx => cases hx; simp
 | 10, _, hx => cases hx; simp
 | 11, _, hx => cases hx; simp
 | 12, _, hx => cases hx; simp
 | 13, _, hx => cases hx; simp
 | 14, _, hx => cases hx; simp
 | 15, _, hx => cases hx; simp
 | n + 16, h, _ => omega
def oS (lo : Nat) : List ByteArray -> TV
 | [] => .nils
 | a :: l => .sl lo 1 (cL (a :: l))
def aa.twN (lo : Nat) (x : aa) : List TV := [.str x.name, .int .i64 x.parent, oS lo x.fields]
theorem r8 (B K : Nat) (objs : aK) : ∀ l : List ByteArray, Fin B objs K (oS B l) (.sl K 1 (cL l))
 | [] => .nils 1
 | a :: l => bW (f := fun s : ByteArray => [TV.str s]) (f' := fun s : ByteArray => [TV.str s]) (fun _x => .cons (.flat rfl) .nil) (a :: l)
theorem aa.finN (B K : Nat) (objs : aK) (x : aa) : gA B objs K (x.twN B) (x.tw K) := .cons (.flat rfl) (.cons (.flat rfl) (.cons (r8 B K objs x.fields) .nil))
section
variable {G : World -> Prop}
theorem eQ (hst : ay G) : Ct Tryz.prog G 209 [] (fun K => .sl K 3 (bs.map (aa.tw K))) := by
 refine ak Tryz.func209 rfl Tryz.ntmps209 rfl rfl fun w0 _ hG => ?_
 have hlen : (cL bV).length = 16 := rfl
 have hbl : bV.length = 16 := rfl
 repeat' (first | refine W_ ?_ | refine ac hG hst (l6) ?_ | (refine ma ?_; intro ss bb))
 apply am (X := Nat × Nat) [6, 7] (fun x => [(8, .int .i64 (x.1 : Int)), (1, .ms ss x.2 0 x.1)]) (fun x => [(ss, x.2, .row 3 ((bs.take x.1).map (aa.twN w0.heap.size)))]) (fun x => x.1 <= 16) (fun x => 16 - x.1) (0, bb) (Nat.zero_le _)
 exact kp_; exact nw_
 ·exact .refl _
 rintro ⟨i, b⟩ hi
 dsimp only at hi |-
 by_cases hlt : i < 16
 ·obtain ⟨x, hx, h1, _, h3, h4⟩ := gL hlt
  obtain ⟨hp, _⟩ := om hx
  have hle : ((bs.take i).map (aa.twN w0.heap.size)).length = i := by rw [List.length_map, List.length_take, eM]; omega
  by_cases hf : 1 <= i /\ i <= 4
  ·have hin : inR (i : Int) 1 4 = true := by unfold inR; simp; omega
   have hw : Ct Tryz.prog G 55 [.int .i64 i, .int .i64 1, .int .i64 4] (fun _ => .bool true) := by rw [<- hin]; exact aI _ _ _
   have hbf : fM (i : Int) = [⟨#[116, 101, 120, 116]⟩] := if_pos (by omega)
   rw [hbf] at h3
   have hrow : ∀ p : Int, p = x.parent -> (bs.take i).map (aa.twN w0.heap.size) ++ [[TV.str x.name, .int .i64 p, .sl w0.heap.size 1 [[TV.str ⟨#[116, 101, 120, 116]⟩]]]] = (bs.take (i + 1)).map (aa.twN w0.heap.size) := fun p h => by
     rw [h4, List.map_append, h]; show _ ++ _ = _ ++ [[_, _, oS w0.heap.size x.fields]]; rw [<- h3]; rfl
   clear h4
   repeat' (first | refine W_ ?_ | (refine aj ?_; intro ss bb) | refine eD ?_ | refine ad ?_ | refine ac hG hst (hw) ?_ | refine dl ?_ | (refine pA ?_; intro bb) | refine c_ (fun hc => ?_) (fun hc => ?_) | refine g_ (fun hg => ?_) (fun hg => ?_))
   all_goals
     rw [hrow]
     ·exact ah (i + 1, bb) (by dsimp only; omega) (by dsimp only; omega) (.of _ nw_ od_ pk_)
     ·omega
  ·have hin : inR (i : Int) 1 4 = false := by unfold inR; simp; omega
   have hw : Ct Tryz.prog G 55 [.int .i64 i, .int .i64 1, .int .i64 4] (fun _ => .bool false) := by rw [<- hin]; exact aI _ _ _
   have hbf : fM (i : Int) = [] := if_neg (by omega)
   rw [hbf] at h3
   have hrow : ∀ p : Int, p = x.parent -> (bs.take i).map (aa.twN w0.heap.size) ++ [[TV.str x.name, .int .i64 p, .nils]] = (bs.take (i + 1)).map (aa.twN w0.heap.size) := fun p h => by
     rw [h4, List.map_append, h]; show _ ++ _ = _ ++ [[_, _, oS w0.heap.size x.fields]]; rw [<- h3]; rfl
   clear h4
   repeat' (first | refine W_ ?_ | (refine aj ?_; intro ss bb) | refine eD ?_ | refine ad ?_ | refine ac hG hst (hw) ?_ | refine dl ?_ | (refine pA ?_; intro bb) | refine c_ (fun hc => ?_) (fun hc => ?_))
   all_goals
     rw [hrow]
     ·exact ah (i + 1, bb) (by dsimp only; omega) (by dsimp only; omega) (.of _ nw_ od_ pk_)
     ·omega
 ·obtain rfl : i = 16 := by omega
  repeat' refine W_ ?_
  refine aA x_ rfl (.tmp _ _ rfl) (fun _ => ?_)
  exact fg (f' := aa.tw _) (fun x => aa.finN _ _ _ x) List.mem_cons_self
end
theorem o8 {l : List ByteArray} {s : ByteArray} {i : Nat} (h : i < l.length) (e : l[i] = s) : ig l s = true := by
 unfold ig
 exact List.any_eq_true.2 ⟨_, List.getElem_mem h, by simp [e]⟩
theorem mW {l : List ByteArray} {s : ByteArray} (h : ∀ y ∈ l, y ≠ s) : ig l s = false := by
 unfold ig
 exact List.any_eq_false.2 fun y hy hb => h y hy (ByteArray.ext (Array.toList_inj.1 (by simpa [Lib.toList_data] using hb)))
theorem jY {a b : List ByteArray} {i : Nat} (ha : i < a.length) (hb : i < b.length) (h : a.take i = b.take i) (e : a[i] = b[i]) : a.take (i + 1) = b.take (i + 1) := by
 rw [List.take_add_one, List.take_add_one, h, List.getElem?_eq_getElem ha, List.getElem?_eq_getElem hb, e]
section
variable {G : World -> Prop}
theorem tA (lo : Nat) (l : List ByteArray) (s : ByteArray) (hn : l.length <= 1048576) : Ct Tryz.prog G 202 [.sl lo 1 (cL l), .str s] (fun _ => .bool (ig l s)) := by
 refine ak Tryz.func202 rfl Tryz.ntmps202 rfl rfl fun w0 _ hG => ?_
 have hlen := bL l
 repeat' refine W_ ?_
 apply am (X := Nat) [0, 1] (fun i => [(5, .int .i64 (i : Int))]) (fun _ => []) (fun i => i <= l.length /\ ∀ y ∈ l.take i, y ≠ s) (fun i => l.length - i) 0 ⟨Nat.zero_le _, by simp⟩
 exact kp_; exact nw_
 ·exact .refl _
 rintro i ⟨hi, hs⟩
 try dsimp only
 by_cases hlt : i < l.length
 ·have hrow := dz hlt
  have hta := aP (p := fun y => y ≠ s) hlt hs
  have htr := o8 (s := s) hlt
  generalize l[i] = x at hrow hta htr
  by_cases hx : x = s
  ·rw [htr hx]
   repeat' refine W_ ?_
   exact r1_
  ·repeat' refine W_ ?_
   exact ah (i + 1) ⟨by omega, hta hx⟩ (by omega) (.of _ nw_ od_ pk_)
 ·rw [List.take_of_length_le (by omega)] at hs
  rw [mW hs]
  repeat' refine W_ ?_
  exact r1_
theorem gG (l1 l2 : Nat) (a b : List ByteArray) (_hn : a.length <= 1048576) (hm : b.length <= 1048576) : Ct Tryz.prog G 200 [.sl l1 1 (cL a), .sl l2 1 (cL b)] (fun _ => .bool (decide (a = b))) := by
 refine ak Tryz.func200 rfl Tryz.ntmps200 rfl rfl fun w0 _ hG => ?_
 have hla := bL a
 have hlb := bL b
 by_cases hl : a.length = b.length
 ·repeat' refine W_ ?_
  apply am (X := Nat) [0, 1] (fun i => [(5, .int .i64 (i : Int))]) (fun _ => []) (fun i => i <= a.length /\ a.take i = b.take i) (fun i => a.length - i) 0 ⟨Nat.zero_le _, by simp⟩
  exact kp_; exact nw_
  ·exact .refl _
  rintro i ⟨hi, hs⟩
  try dsimp only
  by_cases hlt : i < a.length
  ·have hr1 := dz hlt
   have hlt2 : i < b.length := by omega
   have hr2 := dz hlt2
   have hta := jY hlt hlt2 hs
   have hne : a[i] ≠ b[i] -> decide (a = b) = false := fun h => decide_eq_false fun e => h (by subst e; rfl)
   generalize a[i] = x at hr1 hta hne
   generalize b[i] = y at hr2 hta hne
   by_cases hx : x = y
   ·have hx' : ¬ x ≠ y := fun h => h hx
    repeat' refine V_ ?_
    exact ah (i + 1) ⟨by omega, hta hx⟩ (by omega) (.of _ nw_ od_ pk_)
   ·have hx' : x ≠ y := hx
    rw [hne hx]
    repeat' refine V_ ?_
    exact r1_
  ·rw [List.take_of_length_le (by omega), List.take_of_length_le (by omega)] at hs
   rw [decide_eq_true hs]
   repeat' refine W_ ?_
   exact r1_
 ·rw [decide_eq_false (p := a = b) fun e => hl (by rw [e])]
  repeat' refine W_ ?_
  exact r1_
theorem fd (l1 l2 : Nat) (a b : List ByteArray) (_hn : a.length <= 1048576) (hm : b.length <= 1048576) : Ct Tryz.prog G 210 [.sl l1 1 (cL a), .sl l2 1 (cL b)] (fun _ => .bool (decide (a = b))) := by
 refine ak Tryz.func210 rfl Tryz.ntmps210 rfl rfl fun w0 _ hG => ?_
 have hla := bL a
 have hlb := bL b
 by_cases hl : a.length = b.length
 ·repeat' refine W_ ?_
  apply am (X := Nat) [0, 1, 12] (fun i => [(13, .int .i64 (i : Int))]) (fun _ => []) (fun i => i <= a.length /\ a.take i = b.take i) (fun i => a.length - i) 0 ⟨Nat.zero_le _, by simp⟩
  exact kp_; exact nw_
  ·exact .refl _
  rintro i ⟨hi, hs⟩
  try dsimp only
  by_cases hlt : i < a.length
  ·have hr1 := dz hlt
   have hlt2 : i < b.length := by omega
   have hr2 := dz hlt2
   have hta := jY hlt hlt2 hs
   have hne : a[i] ≠ b[i] -> decide (a = b) = false := fun h => decide_eq_false fun e => h (by subst e; rfl)
   generalize a[i] = x at hr1 hta hne
   generalize b[i] = y at hr2 hta hne
   by_cases hx : x = y
   ·have hx' : ¬ x ≠ y := fun h => h hx
    repeat' refine V_ ?_
    exact ah (i + 1) ⟨by omega, hta hx⟩ (by omega) (.of _ nw_ od_ pk_)
   ·have hx' : x ≠ y := hx
    rw [hne hx]
    repeat' refine V_ ?_
    exact r1_
  ·rw [List.take_of_length_le (by omega), List.take_of_length_le (by omega)] at hs
   rw [decide_eq_true hs]
   repeat' refine W_ ?_
   exact r1_
 ·rw [decide_eq_false (p := a = b) fun e => hl (by rw [e])]
  repeat' refine W_ ?_
  exact r1_
end
def xW (l : List ByteArray) (s : ByteArray) : Int := if ig l s then (l.findIdx (fun y => decide (y = s)) : Nat) else -1
theorem zx {l : List ByteArray} {s : ByteArray} {i : Nat} (h : i < l.length) (e : l[i] = s) (hb : ∀ y ∈ l.take i, y ≠ s) : xW l s = i := by
 unfold xW
 rw [if_pos (o8 h e), (List.findIdx_eq (p := fun y => decide (y = s)) h).2 ⟨by simp [e], fun j hj => ?_⟩]
 refine decide_eq_false (hb _ ?_)
 exact List.mem_take_iff_getElem.2 ⟨j, by omega, rfl⟩
theorem xl {l : List ByteArray} {s : ByteArray} (h : ∀ y ∈ l, y ≠ s) : xW l s = -1 := by
 unfold xW
 rw [mW h]; rfl
section
variable {G : World -> Prop}
theorem fw (s : ByteArray) (hs : s.size <= 1048576) : Ct Tryz.prog G 211 [.str s] (fun _ => .bool (bT s.data.toList)) := fG fun w _ => (dG s w hs).mono fun _ _ h => ⟨h.1, rA h.2⟩
theorem rc (s : ByteArray) (hs : s.size <= 1048576) : Ct Tryz.prog G 255 [.str s] (fun _ => .bool (bw s.data.toList)) := fG fun w _ => (ea s w hs).mono fun _ _ h => ⟨h.1, rA h.2⟩
theorem ue : Ct Tryz.prog G 256 [] (fun K => .sl K 1 (cL d7)) := by
 refine ak Tryz.func256 rfl Tryz.ntmps256 rfl rfl fun w0 _ hG => ?_
 repeat' (first | refine W_ ?_ | refine dl ?_)
 refine aA (r1 := .tmp 0) (t1 := .sl w0.heap.size 1 (cL d7)) (.inr rfl) rfl (.tmp _ _ rfl) (fun _ => ?_)
 exact bW (f := fun s : ByteArray => [TV.str s]) (f' := fun s : ByteArray => [TV.str s]) (fun x => .cons (.flat rfl) .nil) d7
theorem ft (hst : ay G) (s : ByteArray) (hs : s.size <= 1048576) : Ct Tryz.prog G 201 [.str s] (fun _ => .bool (bT s.data.toList)) := by
 refine ak Tryz.func201 rfl Tryz.ntmps201 rfl rfl fun w0 _ hG => ?_
 have hw : d7.length <= 1048576 := by decide
 have hp := rc (G := G) s hs
 rw [show bT s.data.toList = (bw s.data.toList && !ig d7 s) from by rw [jP]; rfl]
 cases h : bw s.data.toList
 all_goals
   rw [h] at hp
   cases h2 : ig d7 s
   all_goals
     have hh := tA (G := G) w0.heap.size d7 s hw
     rw [h2] at hh
     repeat' (first | refine W_ ?_ | refine ac hG hst (hp) ?_ | refine ac hG hst (ue) ?_ | refine ac hG hst (hh) ?_)
     exact r1_
theorem mb (lo : Nat) (l : List ByteArray) (s : ByteArray) (hn : l.length <= 1048576) : Ct Tryz.prog G 266 [.sl lo 1 (cL l), .str s] (fun _ => .int .i64 (xW l s)) := by
 refine ak Tryz.func266 rfl Tryz.ntmps266 rfl rfl fun w0 _ hG => ?_
 have hlen := bL l
 repeat' refine W_ ?_
 apply am (X := Nat) [0, 1, 7] (fun i => [(8, .int .i64 (i : Int))]) (fun _ => []) (fun i => i <= l.length /\ ∀ y ∈ l.take i, y ≠ s) (fun i => l.length - i) 0 ⟨Nat.zero_le _, by simp⟩
 exact kp_; exact nw_
 ·exact .refl _
 rintro i ⟨hi, hs⟩
 try dsimp only
 by_cases hlt : i < l.length
 ·have hrow := dz hlt
  have hta := aP (p := fun y => y ≠ s) hlt hs
  have htr : l[i] = s -> xW l s = i := fun e => zx hlt e hs
  generalize l[i] = x at hrow hta htr
  by_cases hx : x = s
  ·rw [htr hx]
   have hx2 : s = x := hx.symm
   repeat' refine W_ ?_
   exact r1_
  ·have hx2 : ¬ s = x := fun e => hx e.symm
   repeat' refine W_ ?_
   exact ah (i + 1) ⟨by omega, hta hx⟩ (by omega) (.of _ nw_ od_ pk_)
 ·rw [List.take_of_length_le (by omega)] at hs
  rw [xl hs]
  repeat' refine W_ ?_
  exact r1_
theorem jG (hst : ay G) (lo : Nat) (l : List ByteArray) (s : ByteArray) (hn : l.length <= 1048576) : Ct Tryz.prog G 212 [.sl lo 1 (cL l), .str s] (fun _ => .bool (decide (xW l s ≥ 0))) := by
 refine ak Tryz.func212 rfl Tryz.ntmps212 rfl rfl fun w0 _ hG => ?_
 repeat' (first | refine W_ ?_ | refine ac hG hst (mb lo l s hn) ?_)
 exact r1_
theorem xX (l : List ByteArray) (s : ByteArray) : decide (xW l s ≥ 0) = ig l s := by
 unfold xW
 cases ig l s
 ·rfl
 ·rw [if_pos rfl]; exact decide_eq_true (Int.natCast_nonneg _)
end
def lO (s : ByteArray) : Bool := decide (∀ j, j < s.size -> 32 <= bat s j /\ bat s j <= 126) && decide ((s.size : Int) <= 40)
theorem mP {s : ByteArray} {i : Nat} (h : i < s.size) (hb : ¬ (32 <= bat s i /\ bat s i <= 126)) : lO s = false := by
 unfold lO
 rw [decide_eq_false fun hk => hb (hk i h)]; rfl
theorem kN {s : ByteArray} (h : ∀ j, j < s.size -> 32 <= bat s j /\ bat s j <= 126) : lO s = decide ((s.size : Int) <= 40) := by
 unfold lO
 rw [decide_eq_true h]; rfl
theorem bI {p : Nat -> Prop} {i : Nat} (h : ∀ j, j < i -> p j) (hi : p i) : ∀ j, j < i + 1 -> p j := fun j hj => by
 rcases Nat.lt_or_ge j i with hk | hk
 ·exact h j hk
 ·obtain rfl : j = i := by omega
  exact hi
section
variable {G : World -> Prop}
theorem rh (s : ByteArray) (hs : s.size <= 1048576) : Ct Tryz.prog G 260 [.str s] (fun _ => .bool (lO s)) := by
 refine ak Tryz.func260 rfl Tryz.ntmps260 rfl rfl fun w0 _ hG => ?_
 repeat' refine W_ ?_
 apply am (X := Nat) [0] (fun i => [(3, .int .i64 (i : Int))]) (fun _ => []) (fun i => i <= s.size /\ ∀ j, j < i -> 32 <= bat s j /\ bat s j <= 126) (fun i => s.size - i) 0 ⟨Nat.zero_le _, by simp⟩
 exact kp_; exact nw_
 ·exact .refl _
 rintro i ⟨hi, hk⟩
 try dsimp only
 by_cases hlt : i < s.size
 ·have hb := sV s i
  by_cases hx : 32 <= bat s i /\ bat s i <= 126
  ·repeat' refine W_ ?_
   exact ah (i + 1) ⟨by omega, bI hk hx⟩ (by omega) (.of _ nw_ od_ pk_)
  ·rw [mP hlt hx]
   repeat' (first | refine W_ ?_ | refine g_ (fun hg => ?_) (fun hg => ?_))
   all_goals first
     | (exfalso; omega)
     | (exact r1_)
 ·rw [kN fun j hj => hk j (by omega)]
  repeat' refine W_ ?_
  exact r1_
theorem qe (hst : ay G) (s : ByteArray) (hs : s.size <= 1048576) : Ct Tryz.prog G 222 [.str s] (fun _ => .bool (lO s)) := by
 refine ak Tryz.func222 rfl Tryz.ntmps222 rfl rfl fun w0 _ hG => ?_
 repeat' refine W_ ?_
 apply am (X := Nat) [0] (fun i => [(3, .int .i64 (i : Int))]) (fun _ => []) (fun i => i <= s.size /\ ∀ j, j < i -> 32 <= bat s j /\ bat s j <= 126) (fun i => s.size - i) 0 ⟨Nat.zero_le _, by simp⟩
 exact kp_; exact nw_
 ·exact .refl _
 rintro i ⟨hi, hk⟩
 try dsimp only
 by_cases hlt : i < s.size
 ·have hb := sV s i
  by_cases hx : 32 <= bat s i /\ bat s i <= 126
  ·have hw : Ct Tryz.prog G 55 [.int .i64 (bat s i), .int .i64 32, .int .i64 126] (fun _ => .bool true) := by rw [<- show inR (bat s i) 32 126 = true from by unfold inR; simp; omega]; exact aI _ _ _
   repeat' (first | refine W_ ?_ | refine ac hG hst (hw) ?_)
   exact ah (i + 1) ⟨by omega, bI hk hx⟩ (by omega) (.of _ nw_ od_ pk_)
  ·have hw : Ct Tryz.prog G 55 [.int .i64 (bat s i), .int .i64 32, .int .i64 126] (fun _ => .bool false) := by rw [<- show inR (bat s i) 32 126 = false from by unfold inR; simp; omega]; exact aI _ _ _
   rw [mP hlt hx]
   repeat' (first | refine W_ ?_ | refine ac hG hst (hw) ?_)
   exact r1_
 ·rw [kN fun j hj => hk j (by omega)]
  repeat' refine W_ ?_
  exact r1_
end
def fieldAt (f : List ByteArray) (k : Nat) (s : ByteArray) : Bool := bT s.data.toList && !ig (f.take k) s
def oM (f : List ByteArray) : Prop := ∀ (k : Nat) (h : k < f.length), fieldAt f k f[k] = true
def cC (_l : List aa) (i : Nat) (x : aa) : Prop :=
 bT x.name.data.toList = true /\ (0 <= x.parent /\ x.parent < i) /\ ¬ (5 <= x.parent /\ x.parent <= 15) /\ x.fields.length <= 8
instance (l : List aa) (i : Nat) (x : aa) : Decidable (cC l i x) := by unfold cC; infer_instance
def qA (l : List aa) (i : Nat) (x : aa) : Prop := ∀ y ∈ l.take i, y.name ≠ x.name
def d8 (l : List aa) (x : aa) : List ByteArray := match l[x.parent.toNat]? with
 | some p => p.fields
 | none => []
def xZ (l : List aa) (x : aa) : Prop := (d8 l x).length <= x.fields.length /\ x.fields.take (d8 l x).length = d8 l x
def dC (l : List aa) (i : Nat) (x : aa) : Prop :=
 if i < 16 then ∃ b, bs[i]? = some b /\ x.name = b.name /\ x.parent = b.parent /\ x.fields = b.fields
 else cC l i x /\ qA l i x /\ xZ l x /\ oM x.fields
def mR (l : List aa) : Prop := (16 <= l.length /\ l.length <= 24) /\ ∀ (i : Nat) (h : i < l.length), dC l i l[i]
open Classical in
noncomputable def bC (l : List aa) : Bool := decide (mR l)
open Classical in
theorem i8 {l : List aa} (h : ¬ (16 <= l.length /\ l.length <= 24)) : bC l = false := decide_eq_false fun k => h k.1
open Classical in
theorem jm {l : List aa} {i : Nat} (h : i < l.length) (hb : ¬ dC l i l[i]) : bC l = false := decide_eq_false fun k => hb (k.2 i h)
open Classical in
theorem gX {l : List aa} (hl : 16 <= l.length /\ l.length <= 24) (h : ∀ j, j < l.length -> ∀ h : j < l.length, dC l j l[j]) : bC l = true := decide_eq_true ⟨hl, fun i hi => h i hi hi⟩
theorem kR {l : List aa} {i : Nat} {x b : aa} (h : i < 16) (hb : bs[i]? = some b) : dC l i x ↔ x.name = b.name /\ x.parent = b.parent /\ x.fields = b.fields := by
 unfold dC
 rw [if_pos h]
 constructor
 ·rintro ⟨c, hc, k⟩
  rw [hb] at hc; cases hc; exact k
 ·exact fun k => ⟨b, hb, k⟩
theorem jX {l : List aa} {i : Nat} {x : aa} (h : ¬ i < 16) : dC l i x ↔ cC l i x /\ qA l i x /\ xZ l x /\ oM x.fields := by
 unfold dC
 rw [if_neg h]
theorem f7 {l : List aa} {x p : aa} {k : Nat} (h : x.parent = k) (hp : l[k]? = some p) : d8 l x = p.fields := by
 unfold d8
 rw [h, Int.toNat_natCast, hp]
theorem j6 {f : List ByteArray} {k : Nat} (h : k < f.length) (hb : fieldAt f k f[k] = false) : ¬ oM f := fun a => by
 have := a k h
 rw [hb] at this; cases this
theorem vu {G : World -> Prop} (op : Int) : Ct Tryz.prog G 219 [.int .i64 op] (fun _ => .tup [.bool (aa0 op), .bool (aaT op), .bool (abf op)]) := by
 refine ak Tryz.func219 rfl Tryz.ntmps219 rfl rfl fun w0 _ hG => ?_
 repeat' (first | with_reducible refine bS rfl ?_ | ((with_reducible apply o_y); exact y_; rfl) | with_reducible refine ck ?_ | with_reducible refine bz ?_ | with_reducible refine dr ?_ | with_reducible refine cw ?_ | with_reducible refine bJ ?_ | with_reducible refine cq ?_ | with_reducible refine cu ?_ | with_reducible refine dx ?_ | with_reducible refine aT ?_ | with_reducible refine aN rfl ?_ | with_reducible refine aU ?_ | with_reducible refine aZ ?_ | with_reducible refine aS ?_ | with_reducible refine bM ?_ | with_reducible refine bS rfl ?_ | refine et rfl rfl rfl rr_ ?_ | refine da rfl rfl rfl rr_ rfl rfl rfl ?_ | refine cy rfl rfl rfl rr_ rfl rfl ?_ | (refine iC rfl rfl rfl rr_ dd_ ?_) | (refine ix rfl rfl rfl rr_ dd_ ?_) | (refine cV rfl rfl rfl rr_ (fun hg => ?_) (fun hg => ?_)) | (refine cO rfl rfl rfl rr_ (fun hg => ?_) (fun hg => ?_)) | refine bB rfl rr_ ?_ | refine bx rfl rr_ ?_ | (refine bf rfl rr_ dd_ ?_) | (refine bg rfl rr_ dd_ ?_) | (refine dy rfl rr_ (fun hc => ?_) (fun hc => ?_)) | (refine cA rfl rr_ (fun hc => ?_) (fun hc => ?_)))
 all_goals
   refine jN x_ rfl (.tmp _ _ rfl) (.tmp _ _ rfl) (.tmp _ _ rfl) (fun _ => ?_) (fun _ => ?_) (fun _ => ?_)
   all_goals
     refine aD ?_
     simp only [aa0, aaT, abf]
     symm
     first | (rw [decide_eq_true_iff]; omega) | (rw [decide_eq_false_iff_not]; omega)
section
variable {G : World -> Prop}
theorem j2 (hst : ay G) (lo : Nat) (l : List aa) (hsm : l.length <= 1048576 /\ ∀ y ∈ l, aa.small 1048576 y) : Ct Tryz.prog G 134 [.sl lo 3 (l.map (aa.tw lo))] (fun _ => .bool (bC l)) := by
 refine ak Tryz.func134 rfl Tryz.ntmps134 rfl rfl fun w0 _ hG => ?_
 have hlen := aa.len lo l
 have hbl := aa.len w0.heap.size bs
 rw [eM] at hbl
 have hl1 := hsm.1
 have hwi := aI (G := G) (l.length : Int) 16 24
 by_cases hl : 16 <= l.length /\ l.length <= 24
 ·rw [qY (by omega)] at hwi
  repeat' (first | refine W_ ?_ | refine ac hG hst (hwi) ?_)
  apply am (X := Nat) [0, 15, 16] (fun i => [(17, .int .i64 (i : Int))]) (fun _ => []) (fun i => i <= l.length /\ ∀ j, j < i -> ∀ h : j < l.length, dC l j l[j]) (fun i => l.length - i) 0 ⟨Nat.zero_le _, by simp⟩
  exact kp_; exact nw_
  ·exact .nil _
  rintro i ⟨hi, hk⟩
  try dsimp only
  by_cases hlt : i < l.length
  ·have hra : (l.map (aa.tw lo))[i]? = some (l[i].tw lo) := aE hlt
   have hbi := hsm.2 _ (List.getElem_mem hlt)
   have hbad := jm hlt
   have hks : dC l i l[i] -> ∀ j, j < i + 1 -> ∀ h : j < l.length, dC l j l[j] := fun ho => bI hk fun _ => ho
   generalize l[i] = x at hra hbi hbad hks
   rw [show x.tw lo = [.str x.name, .int .i64 x.parent, .sl lo 1 (cL x.fields)] from rfl] at hra
   by_cases hlow : i < 16
   ·obtain ⟨bi, hb, _, _, h3, _⟩ := gL hlow
    have hrb : (bs.map (aa.tw w0.heap.size))[i]? = some [.str bi.name, .int .i64 bi.parent, .sl w0.heap.size 1 (cL bi.fields)] := by rw [List.getElem?_map, hb]; rfl
    rw [kR hlow hb] at hbad hks
    have hbf : bi.fields.length <= 1048576 := by rw [<- h3]; unfold fM; split <;> simp
    have heq := fd (G := G) lo w0.heap.size x.fields bi.fields hbi.2.1 hbf
    clear h3
    by_cases ho : x.name = bi.name /\ x.parent = bi.parent /\ x.fields = bi.fields
    ·have n1 : ¬ x.name ≠ bi.name := fun h => h ho.1
     have n2 : ¬ x.parent ≠ bi.parent := fun h => h ho.2.1
     rw [decide_eq_true ho.2.2] at heq
     repeat' (first | refine W_ ?_ | (refine aj ?_; intro ss bb) | refine ad ?_ | refine ac hG hst (eQ hst) ?_ | refine ac hG hst (heq) ?_)
     exact ah (i + 1) ⟨by omega, hks ho⟩ (by omega) (.of _ nw_ od_ (dp.nil _))
    ·rw [hbad ho]
     clear hks hbad
     by_cases hfe : x.fields = bi.fields
     ·rw [decide_eq_true hfe] at heq
      repeat' (first | refine W_ ?_ | (refine aj ?_; intro ss bb) | refine ad ?_ | refine ac hG hst (eQ hst) ?_ | refine ac hG hst (heq) ?_ | refine g_ (fun hg => ?_) (fun hg => ?_))
      all_goals first
        | (exfalso; exact ho ⟨Decidable.of_not_not (by assumption), Decidable.of_not_not (by assumption), hfe⟩)
        | (exact r1_)
     ·rw [decide_eq_false hfe] at heq
      repeat' (first | refine W_ ?_ | (refine aj ?_; intro ss bb) | refine ad ?_ | refine ac hG hst (eQ hst) ?_ | refine ac hG hst (heq) ?_ | refine g_ (fun hg => ?_) (fun hg => ?_))
      all_goals
        exact r1_
   ·rw [jX hlow] at hbad hks
    obtain ⟨nm, par, fs⟩ := x
    dsimp only at hra hbi hbad hks
    have hx1 : nm.size <= 1048576 := hbi.1
    have hx2 : fs.length <= 1048576 := hbi.2.1
    have hx3 : ∀ y ∈ fs, ByteArray.size y <= 1048576 := hbi.2.2
    have hfl := bL fs
    clear hbl
    repeat' (first | refine H_ 10 ?_ | (refine aj ?_; intro ss bb) | refine ad ?_)
    refine ⟨ck ?_⟩
    generalize ss = s3; generalize bb = b3
    apply ez (X := Unit) [0, 3, 4, 15, 16, 17] (fun _ => [(70, .bool (!decide (cC l i ⟨nm, par, fs⟩)))]) (fun _ => [(s3, b3, .box [.str nm, .int .i64 par, .sl lo 1 (cL fs)])]) (fun _ => True)
    case hk => (repeat (first | exact gS.nil | (apply gS.cons; rfl)))
    ·repeat' (first | refine W_ ?_ | refine ac hG hst (fw _ hx1) ?_ | refine ac hG hst (aI _ _ _) ?_ | refine g_ (fun hg => ?_) (fun hg => ?_))
     all_goals
       refine dg () trivial (.of _ (jt.envCons (iE rfl ?_) jt.envNil) od_ pk_)
       clear hbad hks hk hra hbi
       simp only [Bool.not_eq_true', Bool.not_eq_false', inR, decide_eq_true_eq, decide_eq_false_iff_not] at *
       by_cases h8 : (8 : Int) < (fs.length : Int)
       all_goals (try simp only [h8, decide_true, decide_false])
       all_goals first
         | (have : cC l i ⟨nm, par, fs⟩ := ⟨by assumption, by dsimp only; omega, by dsimp only; omega, by dsimp only; omega⟩
            simp only [decide_eq_true this, Bool.not_true]
            done)
         | (have : ¬ cC l i ⟨nm, par, fs⟩ := fun h => by
              obtain ⟨h1, h2, h3, h4⟩ := h
              dsimp only at h1 h2 h3 h4
              first
                | omega
                | (simp only [h1] at *; done)
                | (simp_all; done)
            simp only [decide_eq_false this, Bool.not_false]
            done)
    intro _ _
    by_cases hh : cC l i ⟨nm, par, fs⟩
    ·rw [decide_eq_true hh, Bool.not_true]
     have hh2 := hh.2
     obtain ⟨⟨hp0, hp1⟩, _, hf8⟩ := hh2
     dsimp only at hp0 hp1 hf8
     obtain ⟨p, rfl⟩ : ∃ p : Nat, par = p := ⟨par.toNat, by omega⟩
     have hpl : p < l.length := by omega
     have hrp : (l.map (aa.tw lo))[p]? = some (l[p].tw lo) := aE hpl
     have hbp := hsm.2 _ (List.getElem_mem hpl)
     have hpf := f7 (x := ⟨nm, (p : Int), fs⟩) rfl (List.getElem?_eq_getElem hpl)
     generalize l[p] = y at hrp hbp hpf
     obtain ⟨pn, pp, pf⟩ := y
     replace hrp : (l.map (aa.tw lo))[p]? = some [.str pn, .int .i64 pp, .sl lo 1 (cL pf)] := hrp
     have hx4 : pf.length <= 1048576 := hbp.2.1
     have hpl2 := bL pf
     have htl : ((l.map (aa.tw lo)).take i).length = i := by simp; omega
     repeat' (first | refine W_ ?_ | refine tN ?_)
     apply am (X := Nat) [0, 3, 4, 15, 16, 17, 73, 74] (fun k => [(75, .int .i64 (k : Int))]) (fun _ => [(s3, b3, .box [.str nm, .int .i64 (p : Int), .sl lo 1 (cL fs)])]) (fun k => k <= i /\ ∀ y ∈ l.take k, y.name ≠ nm) (fun k => i - k) 0 ⟨Nat.zero_le _, by simp⟩
     exact kp_; exact nw_
     ·exact .refl _
     rintro k ⟨hki, hkn⟩
     try dsimp only
     by_cases hlk : k < i
     ·have hlk2 : k < l.length := by omega
      have hrk : ((l.map (aa.tw lo)).take i)[k]? = some (l[k].tw lo) := by rw [List.getElem?_take_of_lt hlk]; exact aE hlk2
      have hta := aP (p := fun y : aa => y.name ≠ nm) hlk2 hkn
      have hmem : l[k] ∈ l.take i := List.mem_take_iff_getElem.2 ⟨k, by omega, rfl⟩
      generalize l[k] = z at hrk hta hmem
      obtain ⟨zn, zp, zf⟩ := z
      replace hrk : ((l.map (aa.tw lo)).take i)[k]? = some [.str zn, .int .i64 zp, .sl lo 1 (cL zf)] := hrk
      by_cases hzn : zn = nm
      ·rw [hbad fun h => h.2.1 _ hmem hzn]
       repeat' (first | refine W_ ?_ | (refine aj ?_; intro ss bb) | refine ad ?_)
       exact r1_
      ·repeat' (first | refine W_ ?_ | (refine aj ?_; intro ss bb) | refine ad ?_)
       exact ah (k + 1) ⟨by omega, hta hzn⟩ (by omega) (.of _ nw_ od_ pk_)
     ·obtain rfl : k = i := by omega
      clear hlk
      by_cases hhe : pf.length <= fs.length /\ fs.take pf.length = pf
      ·have heq := fd (G := G) lo lo (fs.take pf.length) pf (by simp; omega) hx4
       rw [decide_eq_true hhe.2] at heq
       have hsl : (cL fs).take pf.length = cL (fs.take pf.length) := by simp [cL, List.map_take]
       have hle := hhe.1
       repeat' (first | refine W_ ?_ | refine tN ?_ | refine ac hG hst (heq) ?_)
       apply am (X := Nat) [0, 3, 4, 8, 15, 16, 17, 108, 109] (fun k => [(110, .int .i64 (k : Int))]) (fun _ => [(s3, b3, .box [.str nm, .int .i64 (p : Int), .sl lo 1 (cL fs)])]) (fun k => k <= fs.length /\ ∀ j, j < k -> ∀ h : j < fs.length, fieldAt fs j fs[j] = true) (fun k => fs.length - k) 0 ⟨Nat.zero_le _, by omega⟩
       exact kp_; exact nw_
       ·exact .refl _
       rintro q ⟨hq, hqa⟩
       try dsimp only
       by_cases hqf : q < fs.length
       ·have hfr := dz hqf
        have hqs := hx3 _ (List.getElem_mem hqf)
        have hqb := j6 hqf
        have hqn : fieldAt fs q fs[q] = true -> ∀ j, j < q + 1 -> ∀ h : j < fs.length, fieldAt fs j fs[j] = true := fun h => bI hqa fun _ => h
        generalize fs[q] = f at hfr hqs hqb hqn
        have hname := fw (G := G) f hqs
        have hhas := jG (G := G) hst lo (fs.take q) f (by simp; omega)
        rw [xX] at hhas
        have hsq : (cL fs).take q = cL (fs.take q) := by simp [cL, List.map_take]
        have hqle : q <= fs.length := hq
        by_cases hqo : fieldAt fs q f = true
        ·have hqo2 := hqo
         unfold fieldAt at hqo2
         rw [Bool.and_eq_true, Bool.not_eq_true'] at hqo2
         rw [hqo2.1] at hname
         rw [hqo2.2] at hhas
         repeat' (first | refine W_ ?_ | refine tN ?_ | refine ac hG hst (hname) ?_ | refine ac hG hst (hhas) ?_)
         exact ah (q + 1) ⟨by omega, hqn hqo⟩ (by omega) (.of _ nw_ od_ pk_)
        ·rw [hbad fun h => hqb (Bool.eq_false_iff.2 hqo) h.2.2.2]
         by_cases hqs1 : bT f.data.toList = true
         ·have hqs2 : ig (fs.take q) f = true := by
            unfold fieldAt at hqo
            rw [hqs1, Bool.true_and] at hqo
            simpa using hqo
          rw [hqs1] at hname
          rw [hqs2] at hhas
          repeat' (first | refine W_ ?_ | refine tN ?_ | refine ac hG hst (hname) ?_ | refine ac hG hst (hhas) ?_)
          exact r1_
         ·rw [Bool.eq_false_iff.2 hqs1] at hname
          repeat' (first | refine W_ ?_ | refine ac hG hst (hname) ?_)
          exact r1_
       ·obtain rfl : q = fs.length := by omega
        repeat' refine W_ ?_
        exact ah (k + 1) ⟨by omega, hks ⟨hh, hkn, ⟨by rw [hpf]; exact hhe.1, by rw [hpf]; exact hhe.2⟩, fun j hj => hqa j hj hj⟩⟩ (by omega) (.of _ nw_ od_ (dp.nil _))
      ·rw [hbad fun h => hhe (by have := h.2.2.1; unfold xZ at this; rw [hpf] at this; exact this)]
       by_cases hle : pf.length <= fs.length
       ·have heq := fd (G := G) lo lo (fs.take pf.length) pf (by simp; omega) hx4
        rw [decide_eq_false fun h => hhe ⟨hle, h⟩] at heq
        have hsl : (cL fs).take pf.length = cL (fs.take pf.length) := by simp [cL, List.map_take]
        repeat' (first | refine W_ ?_ | refine tN ?_ | refine ac hG hst (heq) ?_)
        exact r1_
       ·repeat' refine W_ ?_
        exact r1_
    ·rw [decide_eq_false hh, Bool.not_false, hbad fun h => hh h.1]
     repeat' refine W_ ?_
     exact r1_
  ·rw [gX hl fun j hj => hk j (by omega)]
   repeat' refine W_ ?_
   exact r1_
 ·rw [yu (by omega)] at hwi
  rw [i8 hl]
  repeat' (first | refine W_ ?_ | refine ac hG hst (hwi) ?_)
  exact r1_
end
end Go.Proofs.YtiihihgjiklnoaaGreatDoor
