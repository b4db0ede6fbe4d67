/- Part 18 of the proof: the texts IvB, IvC, IvD, IvE, IvP, IvF, IvH. -/
import Derived.Test.YtiihihgjiklnoaaGreatDoorQb10
import Derived.Test.YtiihihgjiklnoaaGreatDoorQb14
import Derived.Test.YtiihihgjiklnoaaGreatDoorQb13
import Derived.Test.YtiihihgjiklnoaaGreatDoorQb4
import Derived.Test.YtiihihgjiklnoaaGreatDoorQb7
/- The built-in classes of the program (builtinInfos). -/
namespace Go.Proofs.YtiihihgjiklnoaaGreatDoor
set_option maxRecDepth 20000
open Go Go.RowKit
theorem pJ {i : Nat} {x : aa} (hx : bF[i]? = some x) : ((i = 0 → x.parent = -1) ∧ (i = 2 → x.parent = 1) ∧ (i = 3 → x.parent = 2) ∧ (i = 4 → x.parent = 2) ∧ (i ≠ 0 → i ≠ 2 → i ≠ 3 → i ≠ 4 → x.parent = 0)) ∧ (i < 16) := by
  have hi : i < 16 := by
    have := (List.getElem?_eq_some_iff.1 hx).1
    rwa [fm] at this
  refine ⟨?_, hi⟩
  match i, hi, hx with
  | 0, _, hx => cases hx; simp
  | 1, _, hx => cases hx; simp
  | 2, _, hx => cases hx; simp
  | 3, _, hx => cases hx; simp
  | 4, _, hx => cases hx; simp
  | 5, _, hx => cases hx; simp
  | 6, _, hx => cases hx; simp
  | 7, _, hx => cases hx; simp
  | 8, _, hx => cases hx; simp
  | 9, _, hx => cases hx; simp
  | 10, _, hx => cases hx; simp
  | 11, _, hx => cases hx; simp
  | 12, _, hx => cases hx; simp
  | 13, _, hx => cases hx; simp
  | 14, _, hx => cases hx; simp
  | 15, _, hx => cases hx; simp
  | n + 16, h, _ => omega
def qu (lo : Nat) : List ByteArray → TV
  | [] => .nils
  | a :: l => .sl lo 1 (bE (a :: l))
def aa.twN (lo : Nat) (x : aa) : List TV := [.str x.name, .int .i64 x.parent, qu lo x.fields]
theorem tM (B K : Nat) (objs : aI) : ∀ l : List ByteArray, Fin B objs K (qu B l) (.sl K 1 (bE l))
  | [] => .nils 1
  | a :: l => cn (f := fun s : ByteArray => [TV.str s]) (f' := fun s : ByteArray => [TV.str s]) (fun _x => .cons (.flat rfl) .nil) (a :: l)
theorem aa.finN (B K : Nat) (objs : aI) (x : aa) : im B objs K (x.twN B) (x.tw K) := .cons (.flat rfl) (.cons (.flat rfl) (.cons (tM B K objs x.fields) .nil))
section
variable {G : World → Prop}
theorem e7 (hst : az G) : Ct Tryz.prog G 209 [] (fun K => .sl K 3 (bF.map (aa.tw K))) := by
  refine ao Tryz.func209 rfl Tryz.ntmps209 rfl rfl fun w0 _ hG => ?_
  have hlen : (bE cq).length = 16 := rfl
  have hbl : cq.length = 16 := rfl
  repeat' (first | refine W_ ?_ | refine ab hG hst (nV) ?_ | (refine lz ?_; intro ss bb) | refine c_ (fun hc => ?_) (fun hc => ?_) | refine g_ (fun hg => ?_) (fun hg => ?_))
  apply aj (X := Nat × Nat) [6, 7] (fun x => [(8, .int .i64 (x.1 : Int)), (1, .ms ss x.2 0 x.1)]) (fun x => [(ss, x.2, .row 3 ((bF.take x.1).map (aa.twN w0.heap.size)))]) (fun x => x.1 ≤ 16) (fun x => 16 - x.1) (0, bb) (Nat.zero_le _)
  exact kp_; exact nw_
  · exact .refl _
  rintro ⟨i, b⟩ hi
  dsimp only at hi ⊢
  by_cases hlt : i < 16
  · obtain ⟨x, hx, h1, _, h3, h4⟩ := iE hlt
    obtain ⟨hp, _⟩ := pJ hx
    have hle : ((bF.take i).map (aa.twN w0.heap.size)).length = i := by rw [List.length_map, List.length_take, fm]; omega
    by_cases hf : 1 ≤ i ∧ i ≤ 4
    · have hin : inR (i : Int) 1 4 = true := by unfold inR; simp; omega
      have hw : Ct Tryz.prog G 55 [.int .i64 i, .int .i64 1, .int .i64 4] (fun _ => .bool true) := by rw [← hin]; exact aK _ _ _
      have hbf : fZ (i : Int) = [⟨#[116, 101, 120, 116]⟩] := if_pos (by omega)
      rw [hbf] at h3
      have hrow : ∀ p : Int, p = x.parent → (bF.take i).map (aa.twN w0.heap.size) ++ [[TV.str x.name, .int .i64 p, .sl w0.heap.size 1 [[TV.str ⟨#[116, 101, 120, 116]⟩]]]] = (bF.take (i + 1)).map (aa.twN w0.heap.size) := fun p h => by
        rw [h4, List.map_append, h]; show _ ++ _ = _ ++ [[_, _, qu w0.heap.size x.fields]]; rw [← h3]; rfl
      clear h4
      repeat' (first | refine W_ ?_ | (refine ai ?_; intro ss bb) | refine kn ?_ | refine ad ?_ | refine aE ?_ | refine ab hG hst (hw) ?_ | refine dA ?_ | (refine rd ?_; intro bb) | refine c_ (fun hc => ?_) (fun hc => ?_) | refine g_ (fun hg => ?_) (fun hg => ?_))
      all_goals
        rw [hrow]
        · exact ah (i + 1, bb) (by dsimp only; omega) (by dsimp only; omega) (.of _ nw_ od_ pk_)
        · omega
    · have hin : inR (i : Int) 1 4 = false := by unfold inR; simp; omega
      have hw : Ct Tryz.prog G 55 [.int .i64 i, .int .i64 1, .int .i64 4] (fun _ => .bool false) := by rw [← hin]; exact aK _ _ _
      have hbf : fZ (i : Int) = [] := if_neg (by omega)
      rw [hbf] at h3
      have hrow : ∀ p : Int, p = x.parent → (bF.take i).map (aa.twN w0.heap.size) ++ [[TV.str x.name, .int .i64 p, .nils]] = (bF.take (i + 1)).map (aa.twN w0.heap.size) := fun p h => by
        rw [h4, List.map_append, h]; show _ ++ _ = _ ++ [[_, _, qu w0.heap.size x.fields]]; rw [← h3]; rfl
      clear h4
      repeat' (first | refine W_ ?_ | (refine ai ?_; intro ss bb) | refine kn ?_ | refine ad ?_ | refine aE ?_ | refine ab hG hst (hw) ?_ | refine dA ?_ | (refine rd ?_; intro bb) | refine c_ (fun hc => ?_) (fun hc => ?_) | refine g_ (fun hg => ?_) (fun hg => ?_))
      all_goals
        rw [hrow]
        · exact ah (i + 1, bb) (by dsimp only; omega) (by dsimp only; omega) (.of _ nw_ od_ pk_)
        · omega
  · obtain rfl : i = 16 := by omega
    repeat' (first | refine W_ ?_ | refine c_ (fun hc => ?_) (fun hc => ?_) | refine g_ (fun hg => ?_) (fun hg => ?_))
    refine aB x_ rfl (.tmp _ _ rfl) (fun _ => ?_)
    exact eK (f' := aa.tw _) (fun x => aa.finN _ _ _ x) List.mem_cons_self
end
set_option maxRecDepth 20000
theorem sD {l : List ByteArray} {s : ByteArray} {i : Nat} (h : i < l.length) (e : l[i] = s) : jv l s = true := by
  unfold jv
  exact List.any_eq_true.2 ⟨_, List.getElem_mem h, by simp [e]⟩
theorem og {l : List ByteArray} {s : ByteArray} (h : ∀ y ∈ l, y ≠ s) : jv l s = false := by
  unfold jv
  exact List.any_eq_false.2 fun y hy hb => h y hy (ByteArray.ext (Array.toList_inj.1 (by simpa [Lib.toList_data] using hb)))
theorem la {a b : List ByteArray} {i : Nat} (ha : i < a.length) (hb : i < b.length) (h : a.take i = b.take i) (e : a[i] = b[i]) : a.take (i + 1) = b.take (i + 1) := by
  rw [List.take_add_one, List.take_add_one, h, List.getElem?_eq_getElem ha, List.getElem?_eq_getElem hb, e]
section
variable {G : World → Prop}
theorem uI (lo : Nat) (l : List ByteArray) (s : ByteArray) (hn : l.length ≤ 1048576) : Ct Tryz.prog G 202 [.sl lo 1 (bE l), .str s] (fun _ => .bool (jv l s)) := by
  refine ao Tryz.func202 rfl Tryz.ntmps202 rfl rfl fun w0 _ hG => ?_
  have hlen := bf l
  repeat' (first | refine W_ ?_ | refine c_ (fun hc => ?_) (fun hc => ?_) | refine g_ (fun hg => ?_) (fun hg => ?_))
  apply aj (X := Nat) [0, 1] (fun i => [(5, .int .i64 (i : Int))]) (fun _ => []) (fun i => i ≤ l.length ∧ ∀ y ∈ l.take i, y ≠ s) (fun i => l.length - i) 0 ⟨Nat.zero_le _, by simp⟩
  exact kp_; exact nw_
  · exact .refl _
  rintro i ⟨hi, hs⟩
  try dsimp only
  by_cases hlt : i < l.length
  · have hrow := dG hlt
    have hta := aT (p := fun y => y ≠ s) hlt hs
    have htr := sD (s := s) hlt
    generalize l[i] = x at hrow hta htr
    by_cases hx : x = s
    · rw [htr hx]
      repeat' (first | refine W_ ?_ | refine c_ (fun hc => ?_) (fun hc => ?_) | refine g_ (fun hg => ?_) (fun hg => ?_))
      exact r1_
    · repeat' (first | refine W_ ?_ | refine c_ (fun hc => ?_) (fun hc => ?_) | refine g_ (fun hg => ?_) (fun hg => ?_))
      exact ah (i + 1) ⟨by omega, hta hx⟩ (by omega) (.of _ nw_ od_ pk_)
  · rw [List.take_of_length_le (by omega)] at hs
    rw [og hs]
    repeat' (first | refine W_ ?_ | refine c_ (fun hc => ?_) (fun hc => ?_) | refine g_ (fun hg => ?_) (fun hg => ?_))
    exact r1_
theorem iD (l1 l2 : Nat) (a b : List ByteArray) (_hn : a.length ≤ 1048576) (hm : b.length ≤ 1048576) : Ct Tryz.prog G 200 [.sl l1 1 (bE a), .sl l2 1 (bE b)] (fun _ => .bool (decide (a = b))) := by
  refine ao Tryz.func200 rfl Tryz.ntmps200 rfl rfl fun w0 _ hG => ?_
  have hla := bf a
  have hlb := bf b
  by_cases hl : a.length = b.length
  · repeat' (first | refine W_ ?_ | refine c_ (fun hc => ?_) (fun hc => ?_) | refine g_ (fun hg => ?_) (fun hg => ?_))
    apply aj (X := Nat) [0, 1] (fun i => [(5, .int .i64 (i : Int))]) (fun _ => []) (fun i => i ≤ a.length ∧ a.take i = b.take i) (fun i => a.length - i) 0 ⟨Nat.zero_le _, by simp⟩
    exact kp_; exact nw_
    · exact .refl _
    rintro i ⟨hi, hs⟩
    try dsimp only
    by_cases hlt : i < a.length
    · have hr1 := dG hlt
      have hlt2 : i < b.length := by omega
      have hr2 := dG hlt2
      have hta := la hlt hlt2 hs
      have hne : a[i] ≠ b[i] → decide (a = b) = false := fun h => decide_eq_false fun e => h (by subst e; rfl)
      generalize a[i] = x at hr1 hta hne
      generalize b[i] = y at hr2 hta hne
      by_cases hx : x = y
      · have hx' : ¬ x ≠ y := fun h => h hx
        repeat' (first | refine V_ ?_ | refine c_ (fun hc => ?_) (fun hc => ?_) | refine g_ (fun hg => ?_) (fun hg => ?_))
        exact ah (i + 1) ⟨by omega, hta hx⟩ (by omega) (.of _ nw_ od_ pk_)
      · have hx' : x ≠ y := hx
        rw [hne hx]
        repeat' (first | refine V_ ?_ | refine c_ (fun hc => ?_) (fun hc => ?_) | refine g_ (fun hg => ?_) (fun hg => ?_))
        exact r1_
    · rw [List.take_of_length_le (by omega), List.take_of_length_le (by omega)] at hs
      rw [decide_eq_true hs]
      repeat' (first | refine W_ ?_ | refine c_ (fun hc => ?_) (fun hc => ?_) | refine g_ (fun hg => ?_) (fun hg => ?_))
      exact r1_
  · rw [decide_eq_false (p := a = b) fun e => hl (by rw [e])]
    repeat' (first | refine W_ ?_ | refine c_ (fun hc => ?_) (fun hc => ?_) | refine g_ (fun hg => ?_) (fun hg => ?_))
    exact r1_
theorem fG (l1 l2 : Nat) (a b : List ByteArray) (_hn : a.length ≤ 1048576) (hm : b.length ≤ 1048576) : Ct Tryz.prog G 210 [.sl l1 1 (bE a), .sl l2 1 (bE b)] (fun _ => .bool (decide (a = b))) := by
  refine ao Tryz.func210 rfl Tryz.ntmps210 rfl rfl fun w0 _ hG => ?_
  have hla := bf a
  have hlb := bf b
  by_cases hl : a.length = b.length
  · repeat' (first | refine W_ ?_ | refine c_ (fun hc => ?_) (fun hc => ?_) | refine g_ (fun hg => ?_) (fun hg => ?_))
    apply aj (X := Nat) [0, 1, 12] (fun i => [(13, .int .i64 (i : Int))]) (fun _ => []) (fun i => i ≤ a.length ∧ a.take i = b.take i) (fun i => a.length - i) 0 ⟨Nat.zero_le _, by simp⟩
    exact kp_; exact nw_
    · exact .refl _
    rintro i ⟨hi, hs⟩
    try dsimp only
    by_cases hlt : i < a.length
    · have hr1 := dG hlt
      have hlt2 : i < b.length := by omega
      have hr2 := dG hlt2
      have hta := la hlt hlt2 hs
      have hne : a[i] ≠ b[i] → decide (a = b) = false := fun h => decide_eq_false fun e => h (by subst e; rfl)
      generalize a[i] = x at hr1 hta hne
      generalize b[i] = y at hr2 hta hne
      by_cases hx : x = y
      · have hx' : ¬ x ≠ y := fun h => h hx
        repeat' (first | refine V_ ?_ | refine c_ (fun hc => ?_) (fun hc => ?_) | refine g_ (fun hg => ?_) (fun hg => ?_))
        exact ah (i + 1) ⟨by omega, hta hx⟩ (by omega) (.of _ nw_ od_ pk_)
      · have hx' : x ≠ y := hx
        rw [hne hx]
        repeat' (first | refine V_ ?_ | refine c_ (fun hc => ?_) (fun hc => ?_) | refine g_ (fun hg => ?_) (fun hg => ?_))
        exact r1_
    · rw [List.take_of_length_le (by omega), List.take_of_length_le (by omega)] at hs
      rw [decide_eq_true hs]
      repeat' (first | refine W_ ?_ | refine c_ (fun hc => ?_) (fun hc => ?_) | refine g_ (fun hg => ?_) (fun hg => ?_))
      exact r1_
  · rw [decide_eq_false (p := a = b) fun e => hl (by rw [e])]
    repeat' (first | refine W_ ?_ | refine c_ (fun hc => ?_) (fun hc => ?_) | refine g_ (fun hg => ?_) (fun hg => ?_))
    exact r1_
end
set_option maxRecDepth 20000
def zq (l : List ByteArray) (s : ByteArray) : Int := if jv l s then (l.findIdx (fun y => decide (y = s)) : Nat) else -1
theorem abH {l : List ByteArray} {s : ByteArray} {i : Nat} (h : i < l.length) (e : l[i] = s) (hb : ∀ y ∈ l.take i, y ≠ s) : zq l s = i := by
  unfold zq
  rw [if_pos (sD h e), (List.findIdx_eq (p := fun y => decide (y = s)) h).2 ⟨by simp [e], fun j hj => ?_⟩]
  refine decide_eq_false (hb _ ?_)
  exact List.mem_take_iff_getElem.2 ⟨j, by omega, rfl⟩
theorem xY {l : List ByteArray} {s : ByteArray} (h : ∀ y ∈ l, y ≠ s) : zq l s = -1 := by
  unfold zq
  rw [og h]; rfl
section
variable {G : World → Prop}
theorem gG (s : ByteArray) (hs : s.size ≤ 1048576) : Ct Tryz.prog G 211 [.str s] (fun _ => .bool (cj s.data.toList)) := gy fun w _ => (ei s w hs).mono fun _ _ h => ⟨h.1, sN h.2⟩
theorem tO (s : ByteArray) (hs : s.size ≤ 1048576) : Ct Tryz.prog G 255 [.str s] (fun _ => .bool (bO s.data.toList)) := gy fun w _ => (eM s w hs).mono fun _ _ h => ⟨h.1, sN h.2⟩
theorem wS : Ct Tryz.prog G 256 [] (fun K => .sl K 1 (bE eL)) := by
  refine ao Tryz.func256 rfl Tryz.ntmps256 rfl rfl fun w0 _ hG => ?_
  repeat' (first | refine W_ ?_ | refine dA ?_ | refine c_ (fun hc => ?_) (fun hc => ?_) | refine g_ (fun hg => ?_) (fun hg => ?_))
  refine aB (r1 := .tmp 0) (t1 := .sl w0.heap.size 1 (bE eL)) (.inr rfl) rfl (.tmp _ _ rfl) (fun _ => ?_)
  exact cn (f := fun s : ByteArray => [TV.str s]) (f' := fun s : ByteArray => [TV.str s]) (fun x => .cons (.flat rfl) .nil) eL
theorem gf (hst : az G) (s : ByteArray) (hs : s.size ≤ 1048576) : Ct Tryz.prog G 201 [.str s] (fun _ => .bool (cj s.data.toList)) := by
  refine ao Tryz.func201 rfl Tryz.ntmps201 rfl rfl fun w0 _ hG => ?_
  have hw : eL.length ≤ 1048576 := by decide
  have hp := tO (G := G) s hs
  rw [show cj s.data.toList = (bO s.data.toList && !jv eL s) from by rw [kC]; rfl]
  cases h : bO s.data.toList
  all_goals
    rw [h] at hp
    cases h2 : jv eL s
    all_goals
      have hh := uI (G := G) w0.heap.size eL s hw
      rw [h2] at hh
      repeat' (first | refine W_ ?_ | refine ab hG hst (hp) ?_ | refine ab hG hst (wS) ?_ | refine ab hG hst (hh) ?_ | refine c_ (fun hc => ?_) (fun hc => ?_) | refine g_ (fun hg => ?_) (fun hg => ?_))
      exact r1_
theorem nK (lo : Nat) (l : List ByteArray) (s : ByteArray) (hn : l.length ≤ 1048576) : Ct Tryz.prog G 266 [.sl lo 1 (bE l), .str s] (fun _ => .int .i64 (zq l s)) := by
  refine ao Tryz.func266 rfl Tryz.ntmps266 rfl rfl fun w0 _ hG => ?_
  have hlen := bf l
  repeat' (first | refine W_ ?_ | refine c_ (fun hc => ?_) (fun hc => ?_) | refine g_ (fun hg => ?_) (fun hg => ?_))
  apply aj (X := Nat) [0, 1, 7] (fun i => [(8, .int .i64 (i : Int))]) (fun _ => []) (fun i => i ≤ l.length ∧ ∀ y ∈ l.take i, y ≠ s) (fun i => l.length - i) 0 ⟨Nat.zero_le _, by simp⟩
  exact kp_; exact nw_
  · exact .refl _
  rintro i ⟨hi, hs⟩
  try dsimp only
  by_cases hlt : i < l.length
  · have hrow := dG hlt
    have hta := aT (p := fun y => y ≠ s) hlt hs
    have htr : l[i] = s → zq l s = i := fun e => abH hlt e hs
    generalize l[i] = x at hrow hta htr
    by_cases hx : x = s
    · rw [htr hx]
      have hx2 : s = x := hx.symm
      repeat' (first | refine W_ ?_ | refine c_ (fun hc => ?_) (fun hc => ?_) | refine g_ (fun hg => ?_) (fun hg => ?_))
      exact r1_
    · have hx2 : ¬ s = x := fun e => hx e.symm
      repeat' (first | refine W_ ?_ | refine c_ (fun hc => ?_) (fun hc => ?_) | refine g_ (fun hg => ?_) (fun hg => ?_))
      exact ah (i + 1) ⟨by omega, hta hx⟩ (by omega) (.of _ nw_ od_ pk_)
  · rw [List.take_of_length_le (by omega)] at hs
    rw [xY hs]
    repeat' (first | refine W_ ?_ | refine c_ (fun hc => ?_) (fun hc => ?_) | refine g_ (fun hg => ?_) (fun hg => ?_))
    exact r1_
theorem kx (hst : az G) (lo : Nat) (l : List ByteArray) (s : ByteArray) (hn : l.length ≤ 1048576) : Ct Tryz.prog G 212 [.sl lo 1 (bE l), .str s] (fun _ => .bool (decide (zq l s ≥ 0))) := by
  refine ao Tryz.func212 rfl Tryz.ntmps212 rfl rfl fun w0 _ hG => ?_
  repeat' (first | refine W_ ?_ | refine ab hG hst (nK lo l s hn) ?_ | refine c_ (fun hc => ?_) (fun hc => ?_) | refine g_ (fun hg => ?_) (fun hg => ?_))
  exact r1_
theorem zu (l : List ByteArray) (s : ByteArray) : decide (zq l s ≥ 0) = jv l s := by
  unfold zq
  cases jv l s
  · rfl
  · rw [if_pos rfl]; exact decide_eq_true (Int.natCast_nonneg _)
end
set_option maxRecDepth 20000
def ni (s : ByteArray) : Bool := decide (∀ j, j < s.size → 32 ≤ bat s j ∧ bat s j ≤ 126) && decide ((s.size : Int) ≤ 40)
theorem oU {s : ByteArray} {i : Nat} (h : i < s.size) (hb : ¬ (32 ≤ bat s i ∧ bat s i ≤ 126)) : ni s = false := by
  unfold ni
  rw [decide_eq_false fun hk => hb (hk i h)]; rfl
theorem mN {s : ByteArray} (h : ∀ j, j < s.size → 32 ≤ bat s j ∧ bat s j ≤ 126) : ni s = decide ((s.size : Int) ≤ 40) := by
  unfold ni
  rw [decide_eq_true h]; rfl
theorem bW {p : Nat → Prop} {i : Nat} (h : ∀ j, j < i → p j) (hi : p i) : ∀ j, j < i + 1 → p j := fun j hj => by
  rcases Nat.lt_or_ge j i with hk | hk
  · exact h j hk
  · obtain rfl : j = i := by omega
    exact hi
section
variable {G : World → Prop}
theorem t6 (s : ByteArray) (hs : s.size ≤ 1048576) : Ct Tryz.prog G 260 [.str s] (fun _ => .bool (ni s)) := by
  refine ao Tryz.func260 rfl Tryz.ntmps260 rfl rfl fun w0 _ hG => ?_
  repeat' (first | refine W_ ?_ | refine c_ (fun hc => ?_) (fun hc => ?_) | refine g_ (fun hg => ?_) (fun hg => ?_))
  apply aj (X := Nat) [0] (fun i => [(3, .int .i64 (i : Int))]) (fun _ => []) (fun i => i ≤ s.size ∧ ∀ j, j < i → 32 ≤ bat s j ∧ bat s j ≤ 126) (fun i => s.size - i) 0 ⟨Nat.zero_le _, by simp⟩
  exact kp_; exact nw_
  · exact .refl _
  rintro i ⟨hi, hk⟩
  try dsimp only
  by_cases hlt : i < s.size
  · have hb := uZ s i
    by_cases hx : 32 ≤ bat s i ∧ bat s i ≤ 126
    · repeat' (first | refine W_ ?_ | refine c_ (fun hc => ?_) (fun hc => ?_) | refine g_ (fun hg => ?_) (fun hg => ?_))
      exact ah (i + 1) ⟨by omega, bW hk hx⟩ (by omega) (.of _ nw_ od_ pk_)
    · rw [oU hlt hx]
      repeat' (first | refine W_ ?_ | refine c_ (fun hc => ?_) (fun hc => ?_) | refine g_ (fun hg => ?_) (fun hg => ?_))
      all_goals first
        | (exfalso; omega)
        | (exact r1_)
  · rw [mN fun j hj => hk j (by omega)]
    repeat' (first | refine W_ ?_ | refine c_ (fun hc => ?_) (fun hc => ?_) | refine g_ (fun hg => ?_) (fun hg => ?_))
    exact r1_
theorem qR (hst : az G) (s : ByteArray) (hs : s.size ≤ 1048576) : Ct Tryz.prog G 222 [.str s] (fun _ => .bool (ni s)) := by
  refine ao Tryz.func222 rfl Tryz.ntmps222 rfl rfl fun w0 _ hG => ?_
  repeat' (first | refine W_ ?_ | refine c_ (fun hc => ?_) (fun hc => ?_) | refine g_ (fun hg => ?_) (fun hg => ?_))
  apply aj (X := Nat) [0] (fun i => [(3, .int .i64 (i : Int))]) (fun _ => []) (fun i => i ≤ s.size ∧ ∀ j, j < i → 32 ≤ bat s j ∧ bat s j ≤ 126) (fun i => s.size - i) 0 ⟨Nat.zero_le _, by simp⟩
  exact kp_; exact nw_
  · exact .refl _
  rintro i ⟨hi, hk⟩
  try dsimp only
  by_cases hlt : i < s.size
  · have hb := uZ s i
    by_cases hx : 32 ≤ bat s i ∧ bat s i ≤ 126
    · have hw : Ct Tryz.prog G 55 [.int .i64 (bat s i), .int .i64 32, .int .i64 126] (fun _ => .bool true) := by rw [← show inR (bat s i) 32 126 = true from by unfold inR; simp; omega]; exact aK _ _ _
      repeat' (first | refine W_ ?_ | refine ab hG hst (hw) ?_ | refine c_ (fun hc => ?_) (fun hc => ?_) | refine g_ (fun hg => ?_) (fun hg => ?_))
      exact ah (i + 1) ⟨by omega, bW hk hx⟩ (by omega) (.of _ nw_ od_ pk_)
    · have hw : Ct Tryz.prog G 55 [.int .i64 (bat s i), .int .i64 32, .int .i64 126] (fun _ => .bool false) := by rw [← show inR (bat s i) 32 126 = false from by unfold inR; simp; omega]; exact aK _ _ _
      rw [oU hlt hx]
      repeat' (first | refine W_ ?_ | refine ab hG hst (hw) ?_ | refine c_ (fun hc => ?_) (fun hc => ?_) | refine g_ (fun hg => ?_) (fun hg => ?_))
      exact r1_
  · rw [mN fun j hj => hk j (by omega)]
    repeat' (first | refine W_ ?_ | refine c_ (fun hc => ?_) (fun hc => ?_) | refine g_ (fun hg => ?_) (fun hg => ?_))
    exact r1_
end
def fieldAt (f : List ByteArray) (k : Nat) (s : ByteArray) : Bool := cj s.data.toList && !jv (f.take k) s
def qy (f : List ByteArray) : Prop := ∀ (k : Nat) (h : k < f.length), fieldAt f k f[k] = true
def cX (_l : List aa) (i : Nat) (x : aa) : Prop :=
  cj x.name.data.toList = true ∧ (0 ≤ x.parent ∧ x.parent < i) ∧ ¬ (5 ≤ x.parent ∧ x.parent ≤ 15) ∧ x.fields.length ≤ 8
instance (l : List aa) (i : Nat) (x : aa) : Decidable (cX l i x) := by unfold cX; infer_instance
def qX (l : List aa) (i : Nat) (x : aa) : Prop := ∀ y ∈ l.take i, y.name ≠ x.name
def dM (l : List aa) (x : aa) : List ByteArray := match l[x.parent.toNat]? with
  | some p => p.fields
  | none => []
def zG (l : List aa) (x : aa) : Prop := (dM l x).length ≤ x.fields.length ∧ x.fields.take (dM l x).length = dM l x
def dZ (l : List aa) (i : Nat) (x : aa) : Prop :=
  if i < 16 then ∃ b, bF[i]? = some b ∧ x.name = b.name ∧ x.parent = b.parent ∧ x.fields = b.fields
  else cX l i x ∧ qX l i x ∧ zG l x ∧ qy x.fields
def iI (l : List aa) : Prop := (16 ≤ l.length ∧ l.length ≤ 24) ∧ ∀ (i : Nat) (h : i < l.length), dZ l i l[i]
open Classical in
noncomputable def bP (l : List aa) : Bool := decide (iI l)
open Classical in
theorem jR {l : List aa} (h : ¬ (16 ≤ l.length ∧ l.length ≤ 24)) : bP l = false := decide_eq_false fun k => h k.1
open Classical in
theorem jJ {l : List aa} {i : Nat} (h : i < l.length) (hb : ¬ dZ l i l[i]) : bP l = false := decide_eq_false fun k => hb (k.2 i h)
open Classical in
theorem i5 {l : List aa} (hl : 16 ≤ l.length ∧ l.length ≤ 24) (h : ∀ j, j < l.length → ∀ h : j < l.length, dZ l j l[j]) : bP l = true := decide_eq_true ⟨hl, fun i hi => h i hi hi⟩
theorem mg {l : List aa} {i : Nat} {x b : aa} (h : i < 16) (hb : bF[i]? = some b) : dZ l i x ↔ x.name = b.name ∧ x.parent = b.parent ∧ x.fields = b.fields := by
  unfold dZ
  rw [if_pos h]
  constructor
  · rintro ⟨c, hc, k⟩
    rw [hb] at hc; cases hc; exact k
  · exact fun k => ⟨b, hb, k⟩
theorem ip {l : List aa} {i : Nat} {x : aa} (h : ¬ i < 16) : dZ l i x ↔ cX l i x ∧ qX l i x ∧ zG l x ∧ qy x.fields := by
  unfold dZ
  rw [if_neg h]
theorem fa {l : List aa} {x p : aa} {k : Nat} (h : x.parent = k) (hp : l[k]? = some p) : dM l x = p.fields := by
  unfold dM
  rw [h, Int.toNat_natCast, hp]
theorem kQ {f : List ByteArray} {k : Nat} (h : k < f.length) (hb : fieldAt f k f[k] = false) : ¬ qy f := fun a => by
  have := a k h
  rw [hb] at this; cases this
set_option maxHeartbeats 2000000 in
theorem yI {G : World → Prop} (op : Int) : Ct Tryz.prog G 219 [.int .i64 op] (fun _ => .tup [.bool (acR op), .bool (acu op), .bool (acN op)]) := by
  refine ao Tryz.func219 rfl Tryz.ntmps219 rfl rfl fun w0 _ hG => ?_
  repeat' (first | with_reducible refine ch rfl ?_ | ((with_reducible apply o_y); exact y_; rfl) | with_reducible refine cE ?_ | with_reducible refine bJ ?_ | with_reducible refine dX ?_ | with_reducible refine cO ?_ | with_reducible refine bV ?_ | with_reducible refine cS ?_ | with_reducible refine cU ?_ | with_reducible refine ea ?_ | with_reducible refine aY ?_ | with_reducible refine aR rfl ?_ | with_reducible refine aZ ?_ | with_reducible refine ba ?_ | with_reducible refine aX ?_ | with_reducible refine bZ ?_ | with_reducible refine ch rfl ?_ | refine ff rfl rfl rfl rr_ ?_ | refine dH rfl rfl rfl rr_ rfl rfl rfl ?_ | refine cT rfl rfl rfl rr_ rfl rfl ?_ | (refine jo rfl rfl rfl rr_ dd_ ?_) | (refine jd rfl rfl rfl rr_ dd_ ?_) | (refine dy rfl rfl rfl rr_ (fun hg => ?_) (fun hg => ?_)) | (refine dn rfl rfl rfl rr_ (fun hg => ?_) (fun hg => ?_)) | refine bM rfl rr_ ?_ | refine bN rfl rr_ ?_ | (refine bw rfl rr_ dd_ ?_) | (refine bz rfl rr_ dd_ ?_) | (refine ee rfl rr_ (fun hc => ?_) (fun hc => ?_)) | (refine cW rfl rr_ (fun hc => ?_) (fun hc => ?_)))
  all_goals
    refine xT x_ rfl (.tmp _ _ rfl) (.tmp _ _ rfl) (.tmp _ _ rfl) (fun _ => ?_) (fun _ => ?_) (fun _ => ?_)
    all_goals
      refine aJ ?_
      simp only [acR, acu, acN]
      symm
      first | (rw [decide_eq_true_iff]; omega) | (rw [decide_eq_false_iff_not]; omega)
set_option maxRecDepth 20000
section
variable {G : World → Prop}
set_option maxRecDepth 4000 in
set_option maxHeartbeats 4000000 in
theorem k7 (hst : az G) (lo : Nat) (l : List aa) (hsm : l.length ≤ 1048576 ∧ ∀ y ∈ l, aa.small 1048576 y) : Ct Tryz.prog G 134 [.sl lo 3 (l.map (aa.tw lo))] (fun _ => .bool (bP l)) := by
  refine ao Tryz.func134 rfl Tryz.ntmps134 rfl rfl fun w0 _ hG => ?_
  have hlen := aa.len lo l
  have hbl := aa.len w0.heap.size bF
  rw [fm] at hbl
  have hl1 := hsm.1
  have hwi := aK (G := G) (l.length : Int) 16 24
  by_cases hl : 16 ≤ l.length ∧ l.length ≤ 24
  · rw [t8 (by omega)] at hwi
    repeat' (first | refine W_ ?_ | refine ab hG hst (hwi) ?_ | refine c_ (fun hc => ?_) (fun hc => ?_) | refine g_ (fun hg => ?_) (fun hg => ?_))
    apply aj (X := Nat) [0, 15, 16] (fun i => [(17, .int .i64 (i : Int))]) (fun _ => []) (fun i => i ≤ l.length ∧ ∀ j, j < i → ∀ h : j < l.length, dZ l j l[j]) (fun i => l.length - i) 0 ⟨Nat.zero_le _, by simp⟩
    exact kp_; exact nw_
    · exact .nil _
    rintro i ⟨hi, hk⟩
    try dsimp only
    by_cases hlt : i < l.length
    · have hra : (l.map (aa.tw lo))[i]? = some (l[i].tw lo) := aH hlt
      have hbi := hsm.2 _ (List.getElem_mem hlt)
      have hbad := jJ hlt
      have hks : dZ l i l[i] → ∀ j, j < i + 1 → ∀ h : j < l.length, dZ l j l[j] := fun ho => bW hk fun _ => ho
      generalize l[i] = x at hra hbi hbad hks
      rw [show x.tw lo = [.str x.name, .int .i64 x.parent, .sl lo 1 (bE x.fields)] from rfl] at hra
      by_cases hlow : i < 16
      · obtain ⟨bi, hb, _, _, h3, _⟩ := iE hlow
        have hrb : (bF.map (aa.tw w0.heap.size))[i]? = some [.str bi.name, .int .i64 bi.parent, .sl w0.heap.size 1 (bE bi.fields)] := by rw [List.getElem?_map, hb]; rfl
        rw [mg hlow hb] at hbad hks
        have hbf : bi.fields.length ≤ 1048576 := by rw [← h3]; unfold fZ; split <;> simp
        have heq := fG (G := G) lo w0.heap.size x.fields bi.fields hbi.2.1 hbf
        clear h3
        by_cases ho : x.name = bi.name ∧ x.parent = bi.parent ∧ x.fields = bi.fields
        · have n1 : ¬ x.name ≠ bi.name := fun h => h ho.1
          have n2 : ¬ x.parent ≠ bi.parent := fun h => h ho.2.1
          rw [decide_eq_true ho.2.2] at heq
          repeat' (first | refine W_ ?_ | (refine ai ?_; intro ss bb) | refine ad ?_ | refine ab hG hst (e7 hst) ?_ | refine ab hG hst (heq) ?_ | refine c_ (fun hc => ?_) (fun hc => ?_) | refine g_ (fun hg => ?_) (fun hg => ?_))
          exact ah (i + 1) ⟨by omega, hks ho⟩ (by omega) (.of _ nw_ od_ (dg.nil _))
        · rw [hbad ho]
          clear hks hbad
          by_cases hfe : x.fields = bi.fields
          · rw [decide_eq_true hfe] at heq
            repeat' (first | refine W_ ?_ | (refine ai ?_; intro ss bb) | refine ad ?_ | refine ab hG hst (e7 hst) ?_ | refine ab hG hst (heq) ?_ | refine c_ (fun hc => ?_) (fun hc => ?_) | refine g_ (fun hg => ?_) (fun hg => ?_))
            all_goals first
              | (exfalso; exact ho ⟨Decidable.of_not_not (by assumption), Decidable.of_not_not (by assumption), hfe⟩)
              | (exact r1_)
          · rw [decide_eq_false hfe] at heq
            repeat' (first | refine W_ ?_ | (refine ai ?_; intro ss bb) | refine ad ?_ | refine ab hG hst (e7 hst) ?_ | refine ab hG hst (heq) ?_ | refine c_ (fun hc => ?_) (fun hc => ?_) | refine g_ (fun hg => ?_) (fun hg => ?_))
            all_goals
              exact r1_
      · rw [ip hlow] at hbad hks
        obtain ⟨nm, par, fs⟩ := x
        dsimp only at hra hbi hbad hks
        have hx1 : nm.size ≤ 1048576 := hbi.1
        have hx2 : fs.length ≤ 1048576 := hbi.2.1
        have hx3 : ∀ y ∈ fs, ByteArray.size y ≤ 1048576 := hbi.2.2
        have hfl := bf fs
        clear hbl
        repeat' (first | refine H_ 10 ?_ | (refine ai ?_; intro ss bb) | refine ad ?_ | refine c_ (fun hc => ?_) (fun hc => ?_) | refine g_ (fun hg => ?_) (fun hg => ?_))
        refine ⟨cE ?_⟩
        generalize ss = s3; generalize bb = b3
        apply fc (X := Unit) [0, 3, 4, 15, 16, 17] (fun _ => [(70, .bool (!decide (cX l i ⟨nm, par, fs⟩)))]) (fun _ => [(s3, b3, .box [.str nm, .int .i64 par, .sl lo 1 (bE fs)])]) (fun _ => True)
        case hk => (repeat (first | exact iO.nil | (apply iO.cons; rfl)))
        · repeat' (first | refine W_ ?_ | refine ab hG hst (gG _ hx1) ?_ | refine ab hG hst (aK _ _ _) ?_ | refine c_ (fun hc => ?_) (fun hc => ?_) | refine g_ (fun hg => ?_) (fun hg => ?_))
          all_goals
            refine dN () trivial (.of _ (dw.envCons (i8 rfl ?_) dw.envNil) od_ pk_)
            clear hbad hks hk hra hbi
            simp only [Bool.not_eq_true', Bool.not_eq_false', inR, decide_eq_true_eq, decide_eq_false_iff_not] at *
            by_cases h8 : (8 : Int) < (fs.length : Int)
            all_goals (try simp only [h8, decide_true, decide_false])
            all_goals first
              | (have : cX l i ⟨nm, par, fs⟩ := ⟨by assumption, by dsimp only; omega, by dsimp only; omega, by dsimp only; omega⟩
                 simp only [decide_eq_true this, Bool.not_true]
                 done)
              | (have : ¬ cX l i ⟨nm, par, fs⟩ := fun h => by
                   obtain ⟨h1, h2, h3, h4⟩ := h
                   dsimp only at h1 h2 h3 h4
                   first
                     | omega
                     | (simp only [h1] at *; done)
                     | (simp_all; done)
                 simp only [decide_eq_false this, Bool.not_false]
                 done)
        intro _ _
        by_cases hh : cX l i ⟨nm, par, fs⟩
        · rw [decide_eq_true hh, Bool.not_true]
          have hh2 := hh.2
          obtain ⟨⟨hp0, hp1⟩, _, hf8⟩ := hh2
          dsimp only at hp0 hp1 hf8
          obtain ⟨p, rfl⟩ : ∃ p : Nat, par = p := ⟨par.toNat, by omega⟩
          have hpl : p < l.length := by omega
          have hrp : (l.map (aa.tw lo))[p]? = some (l[p].tw lo) := aH hpl
          have hbp := hsm.2 _ (List.getElem_mem hpl)
          have hpf := fa (x := ⟨nm, (p : Int), fs⟩) rfl (List.getElem?_eq_getElem hpl)
          generalize l[p] = y at hrp hbp hpf
          obtain ⟨pn, pp, pf⟩ := y
          replace hrp : (l.map (aa.tw lo))[p]? = some [.str pn, .int .i64 pp, .sl lo 1 (bE pf)] := hrp
          have hx4 : pf.length ≤ 1048576 := hbp.2.1
          have hpl2 := bf pf
          have htl : ((l.map (aa.tw lo)).take i).length = i := by simp; omega
          repeat' (first | refine W_ ?_ | refine uu ?_ | refine c_ (fun hc => ?_) (fun hc => ?_) | refine g_ (fun hg => ?_) (fun hg => ?_))
          apply aj (X := Nat) [0, 3, 4, 15, 16, 17, 73, 74] (fun k => [(75, .int .i64 (k : Int))]) (fun _ => [(s3, b3, .box [.str nm, .int .i64 (p : Int), .sl lo 1 (bE fs)])]) (fun k => k ≤ i ∧ ∀ y ∈ l.take k, y.name ≠ nm) (fun k => i - k) 0 ⟨Nat.zero_le _, by simp⟩
          exact kp_; exact nw_
          · exact .refl _
          rintro k ⟨hki, hkn⟩
          try dsimp only
          by_cases hlk : k < i
          · have hlk2 : k < l.length := by omega
            have hrk : ((l.map (aa.tw lo)).take i)[k]? = some (l[k].tw lo) := by rw [List.getElem?_take_of_lt hlk]; exact aH hlk2
            have hta := aT (p := fun y : aa => y.name ≠ nm) hlk2 hkn
            have hmem : l[k] ∈ l.take i := List.mem_take_iff_getElem.2 ⟨k, by omega, rfl⟩
            generalize l[k] = z at hrk hta hmem
            obtain ⟨zn, zp, zf⟩ := z
            replace hrk : ((l.map (aa.tw lo)).take i)[k]? = some [.str zn, .int .i64 zp, .sl lo 1 (bE zf)] := hrk
            by_cases hzn : zn = nm
            · rw [hbad fun h => h.2.1 _ hmem hzn]
              repeat' (first | refine W_ ?_ | (refine ai ?_; intro ss bb) | refine ad ?_ | refine c_ (fun hc => ?_) (fun hc => ?_) | refine g_ (fun hg => ?_) (fun hg => ?_))
              exact r1_
            · repeat' (first | refine W_ ?_ | (refine ai ?_; intro ss bb) | refine ad ?_ | refine c_ (fun hc => ?_) (fun hc => ?_) | refine g_ (fun hg => ?_) (fun hg => ?_))
              exact ah (k + 1) ⟨by omega, hta hzn⟩ (by omega) (.of _ nw_ od_ pk_)
          · obtain rfl : k = i := by omega
            clear hlk
            by_cases hhe : pf.length ≤ fs.length ∧ fs.take pf.length = pf
            · have heq := fG (G := G) lo lo (fs.take pf.length) pf (by simp; omega) hx4
              rw [decide_eq_true hhe.2] at heq
              have hsl : (bE fs).take pf.length = bE (fs.take pf.length) := by simp [bE, List.map_take]
              have hle := hhe.1
              repeat' (first | refine W_ ?_ | refine uu ?_ | refine ab hG hst (heq) ?_ | refine c_ (fun hc => ?_) (fun hc => ?_) | refine g_ (fun hg => ?_) (fun hg => ?_))
              apply aj (X := Nat) [0, 3, 4, 8, 15, 16, 17, 108, 109] (fun k => [(110, .int .i64 (k : Int))]) (fun _ => [(s3, b3, .box [.str nm, .int .i64 (p : Int), .sl lo 1 (bE fs)])]) (fun k => k ≤ fs.length ∧ ∀ j, j < k → ∀ h : j < fs.length, fieldAt fs j fs[j] = true) (fun k => fs.length - k) 0 ⟨Nat.zero_le _, by omega⟩
              exact kp_; exact nw_
              · exact .refl _
              rintro q ⟨hq, hqa⟩
              try dsimp only
              by_cases hqf : q < fs.length
              · have hfr := dG hqf
                have hqs := hx3 _ (List.getElem_mem hqf)
                have hqb := kQ hqf
                have hqn : fieldAt fs q fs[q] = true → ∀ j, j < q + 1 → ∀ h : j < fs.length, fieldAt fs j fs[j] = true := fun h => bW hqa fun _ => h
                generalize fs[q] = f at hfr hqs hqb hqn
                have hname := gG (G := G) f hqs
                have hhas := kx (G := G) hst lo (fs.take q) f (by simp; omega)
                rw [zu] at hhas
                have hsq : (bE fs).take q = bE (fs.take q) := by simp [bE, List.map_take]
                have hqle : q ≤ fs.length := hq
                by_cases hqo : fieldAt fs q f = true
                · have hqo2 := hqo
                  unfold fieldAt at hqo2
                  rw [Bool.and_eq_true, Bool.not_eq_true'] at hqo2
                  rw [hqo2.1] at hname
                  rw [hqo2.2] at hhas
                  repeat' (first | refine W_ ?_ | refine uu ?_ | refine ab hG hst (hname) ?_ | refine ab hG hst (hhas) ?_ | refine c_ (fun hc => ?_) (fun hc => ?_) | refine g_ (fun hg => ?_) (fun hg => ?_))
                  exact ah (q + 1) ⟨by omega, hqn hqo⟩ (by omega) (.of _ nw_ od_ pk_)
                · rw [hbad fun h => hqb (Bool.eq_false_iff.2 hqo) h.2.2.2]
                  by_cases hqs1 : cj f.data.toList = true
                  · have hqs2 : jv (fs.take q) f = true := by
                      unfold fieldAt at hqo
                      rw [hqs1, Bool.true_and] at hqo
                      simpa using hqo
                    rw [hqs1] at hname
                    rw [hqs2] at hhas
                    repeat' (first | refine W_ ?_ | refine uu ?_ | refine ab hG hst (hname) ?_ | refine ab hG hst (hhas) ?_ | refine c_ (fun hc => ?_) (fun hc => ?_) | refine g_ (fun hg => ?_) (fun hg => ?_))
                    exact r1_
                  · rw [Bool.eq_false_iff.2 hqs1] at hname
                    repeat' (first | refine W_ ?_ | refine uu ?_ | refine ab hG hst (hname) ?_ | refine ab hG hst (hhas) ?_ | refine c_ (fun hc => ?_) (fun hc => ?_) | refine g_ (fun hg => ?_) (fun hg => ?_))
                    exact r1_
              · obtain rfl : q = fs.length := by omega
                repeat' (first | refine W_ ?_ | refine c_ (fun hc => ?_) (fun hc => ?_) | refine g_ (fun hg => ?_) (fun hg => ?_))
                exact ah (k + 1) ⟨by omega, hks ⟨hh, hkn, ⟨by rw [hpf]; exact hhe.1, by rw [hpf]; exact hhe.2⟩, fun j hj => hqa j hj hj⟩⟩ (by omega) (.of _ nw_ od_ (dg.nil _))
            · rw [hbad fun h => hhe (by have := h.2.2.1; unfold zG at this; rw [hpf] at this; exact this)]
              by_cases hle : pf.length ≤ fs.length
              · have heq := fG (G := G) lo lo (fs.take pf.length) pf (by simp; omega) hx4
                rw [decide_eq_false fun h => hhe ⟨hle, h⟩] at heq
                have hsl : (bE fs).take pf.length = bE (fs.take pf.length) := by simp [bE, List.map_take]
                repeat' (first | refine W_ ?_ | refine uu ?_ | refine ab hG hst (heq) ?_ | refine c_ (fun hc => ?_) (fun hc => ?_) | refine g_ (fun hg => ?_) (fun hg => ?_))
                exact r1_
              · repeat' (first | refine W_ ?_ | refine c_ (fun hc => ?_) (fun hc => ?_) | refine g_ (fun hg => ?_) (fun hg => ?_))
                exact r1_
        · rw [decide_eq_false hh, Bool.not_false, hbad fun h => hh h.1]
          repeat' (first | refine W_ ?_ | refine c_ (fun hc => ?_) (fun hc => ?_) | refine g_ (fun hg => ?_) (fun hg => ?_))
          exact r1_
    · rw [i5 hl fun j hj => hk j (by omega)]
      repeat' (first | refine W_ ?_ | refine c_ (fun hc => ?_) (fun hc => ?_) | refine g_ (fun hg => ?_) (fun hg => ?_))
      exact r1_
  · rw [zO (by omega)] at hwi
    rw [jR hl]
    repeat' (first | refine W_ ?_ | refine ab hG hst (hwi) ?_ | refine c_ (fun hc => ?_) (fun hc => ?_) | refine g_ (fun hg => ?_) (fun hg => ?_))
    exact r1_
end
end Go.Proofs.YtiihihgjiklnoaaGreatDoor
