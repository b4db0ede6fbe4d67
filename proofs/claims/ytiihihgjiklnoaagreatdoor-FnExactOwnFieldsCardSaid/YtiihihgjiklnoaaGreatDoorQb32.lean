/- Part 32 of the proof: the texts ImG0. -/
import Derived.Test.YtiihihgjiklnoaaGreatDoorQb28
import Derived.Test.YtiihihgjiklnoaaGreatDoorQb14
/- IsImage: equal classes: both sides. -/
namespace Go.Proofs.YtiihihgjiklnoaaGreatDoor
set_option maxRecDepth 20000
set_option maxHeartbeats 2000000
open Go Go.RowKit
open Classical in
noncomputable def wm (a b : List aa) : Bool := decide (a = b)
open Classical in
theorem oO {a b : List aa} (h : ¬ a = b) : wm a b = false := decide_eq_false h
open Classical in
theorem uK {a b : List aa} (h : a = b) : wm a b = true := decide_eq_true h
theorem aaJ {x y : aa} (h1 : x.name = y.name) (h2 : x.parent = y.parent) (h3 : x.fields = y.fields) : x = y := by
  cases x; cases y; simp_all
theorem gD {α : Type} {a b : List α} {i : Nat} (ha : i < a.length) (hb : i < b.length) (h : a.take i = b.take i) (e : a[i] = b[i]) : a.take (i + 1) = b.take (i + 1) := by
  rw [dV ha, dV hb, h, e]
section
variable {G : World → Prop}
set_option maxHeartbeats 4000000 in
theorem wF (hst : az G) (l1 l2 : Nat) (a b : List aa) (ha : a.length ≤ 1048576 ∧ ∀ y ∈ a, aa.small 1048576 y) (hb : b.length ≤ 1048576 ∧ ∀ y ∈ b, aa.small 1048576 y) : Ct Tryz.prog G 161 [.sl l1 3 (a.map (aa.tw l1)), .sl l2 3 (b.map (aa.tw l2))] (fun _ => .bool (wm a b)) := by
  refine ao Tryz.func161 rfl Tryz.ntmps161 rfl rfl fun w0 _ hG => ?_
  have hla := aa.len l1 a
  have hlb := aa.len l2 b
  have ha1 := ha.1
  have hb1 := hb.1
  by_cases hl : a.length = b.length
  case neg =>
    rw [oO fun e => hl (by rw [e])]
    repeat' (first | refine W_ ?_ | refine c_ (fun hc => ?_) (fun hc => ?_) | refine g_ (fun hg => ?_) (fun hg => ?_))
    exact r1_
  repeat' (first | refine W_ ?_ | refine c_ (fun hc => ?_) (fun hc => ?_) | refine g_ (fun hg => ?_) (fun hg => ?_))
  apply aj (X := Nat) [0, 1] (fun i => [(5, .int .i64 (i : Int))]) (fun _ => []) (fun i => i ≤ a.length ∧ a.take i = b.take i) (fun i => a.length - i) 0 ⟨Nat.zero_le _, by simp⟩
  exact kp_; exact nw_
  · exact .refl _
  rintro i ⟨hi, hs⟩
  try dsimp only
  by_cases hlt : i < a.length
  · have hr1 := iq (lo := l1) hlt
    have hlt2 : i < b.length := by omega
    have hr2 := iq (lo := l2) hlt2
    have hta := gD hlt hlt2 hs
    have hne : a[i] ≠ b[i] → wm a b = false := fun h => oO fun e => h (by subst e; rfl)
    have hsa := (ha.2 _ (List.getElem_mem hlt)).2.1
    have hsb := (hb.2 _ (List.getElem_mem hlt2)).2.1
    have hce := aaJ (x := a[i]) (y := b[i])
    generalize a[i] = x at hr1 hta hne hsa hce
    generalize b[i] = y at hr2 hta hne hsb hce
    have c1 := iD (G := G) l1 l2 x.fields y.fields hsa hsb
    by_cases h1 : x.name = y.name
    case neg =>
      have h1' : x.name ≠ y.name := h1
      rw [hne fun e => h1 (by rw [e])]
      repeat' (first | refine V_ ?_ | refine c_ (fun hc => ?_) (fun hc => ?_) | refine g_ (fun hg => ?_) (fun hg => ?_))
      exact r1_
    have h1' : ¬ x.name ≠ y.name := fun h => h h1
    by_cases h2 : x.parent = y.parent
    case neg =>
      have h2' : x.parent ≠ y.parent := h2
      rw [hne fun e => h2 (by rw [e])]
      repeat' (first | refine V_ ?_ | refine c_ (fun hc => ?_) (fun hc => ?_) | refine g_ (fun hg => ?_) (fun hg => ?_))
      exact r1_
    have h2' : ¬ x.parent ≠ y.parent := fun h => h h2
    by_cases h3 : x.fields = y.fields
    case neg =>
      rw [decide_eq_false h3] at c1
      rw [hne fun e => h3 (by rw [e])]
      repeat' (first | refine V_ ?_ | refine ac hG hst (c1) ?_ | refine c_ (fun hc => ?_) (fun hc => ?_) | refine g_ (fun hg => ?_) (fun hg => ?_))
      exact r1_
    rw [decide_eq_true h3] at c1
    repeat' (first | refine V_ ?_ | refine ac hG hst (c1) ?_ | refine c_ (fun hc => ?_) (fun hc => ?_) | refine g_ (fun hg => ?_) (fun hg => ?_))
    exact ah (i + 1) ⟨by omega, hta (hce h1 h2 h3)⟩ (by omega) (.of _ nw_ od_ pk_)
  · rw [List.take_of_length_le (by omega), List.take_of_length_le (by omega)] at hs
    rw [uK hs]
    repeat' (first | refine W_ ?_ | refine c_ (fun hc => ?_) (fun hc => ?_) | refine g_ (fun hg => ?_) (fun hg => ?_))
    exact r1_
set_option maxHeartbeats 4000000 in
theorem nC (l1 l2 : Nat) (a b : List aa) (ha : a.length ≤ 1048576 ∧ ∀ y ∈ a, aa.small 1048576 y) (hb : b.length ≤ 1048576 ∧ ∀ y ∈ b, aa.small 1048576 y) : Ct Tryz.prog G 178 [.sl l1 3 (a.map (aa.tw l1)), .sl l2 3 (b.map (aa.tw l2))] (fun _ => .bool (wm a b)) := by
  refine ao Tryz.func178 rfl Tryz.ntmps178 rfl rfl fun w0 _ hG => ?_
  have hla := aa.len l1 a
  have hlb := aa.len l2 b
  have ha1 := ha.1
  have hb1 := hb.1
  by_cases hl : a.length = b.length
  case neg =>
    rw [oO fun e => hl (by rw [e])]
    repeat' (first | refine W_ ?_ | refine c_ (fun hc => ?_) (fun hc => ?_) | refine g_ (fun hg => ?_) (fun hg => ?_))
    exact r1_
  repeat' (first | refine W_ ?_ | refine c_ (fun hc => ?_) (fun hc => ?_) | refine g_ (fun hg => ?_) (fun hg => ?_))
  apply aj (X := Nat) [0, 1, 13] (fun i => [(14, .int .i64 (i : Int))]) (fun _ => []) (fun i => i ≤ a.length ∧ a.take i = b.take i) (fun i => a.length - i) 0 ⟨Nat.zero_le _, by simp⟩
  exact kp_; exact nw_
  · exact .refl _
  rintro i ⟨hi, hs⟩
  try dsimp only
  by_cases hlt : i < a.length
  · have hr1 := iq (lo := l1) hlt
    have hlt2 : i < b.length := by omega
    have hr2 := iq (lo := l2) hlt2
    have hta := gD hlt hlt2 hs
    have hne : a[i] ≠ b[i] → wm a b = false := fun h => oO fun e => h (by subst e; rfl)
    have hsa := (ha.2 _ (List.getElem_mem hlt)).2.1
    have hsb := (hb.2 _ (List.getElem_mem hlt2)).2.1
    have hce := aaJ (x := a[i]) (y := b[i])
    generalize a[i] = x at hr1 hta hne hsa hce
    generalize b[i] = y at hr2 hta hne hsb hce
    have hxl := bf x.fields
    have hyl := bf y.fields
    by_cases h1 : x.name = y.name
    case neg =>
      have h1' : x.name ≠ y.name := h1
      rw [hne fun e => h1 (by rw [e])]
      repeat' (first | refine V_ ?_ | refine c_ (fun hc => ?_) (fun hc => ?_) | refine g_ (fun hg => ?_) (fun hg => ?_))
      exact r1_
    have h1' : ¬ x.name ≠ y.name := fun h => h h1
    by_cases h2 : x.parent = y.parent
    case neg =>
      have h2' : x.parent ≠ y.parent := h2
      rw [hne fun e => h2 (by rw [e])]
      repeat' (first | refine V_ ?_ | refine c_ (fun hc => ?_) (fun hc => ?_) | refine g_ (fun hg => ?_) (fun hg => ?_))
      exact r1_
    have h2' : ¬ x.parent ≠ y.parent := fun h => h h2
    by_cases h3 : x.fields.length = y.fields.length
    case neg =>
      have h3' : (x.fields.length : Int) ≠ y.fields.length := by omega
      rw [hne fun e => h3 (by rw [e])]
      repeat' (first | refine V_ ?_ | refine c_ (fun hc => ?_) (fun hc => ?_) | refine g_ (fun hg => ?_) (fun hg => ?_))
      exact r1_
    have h3' : ¬ (x.fields.length : Int) ≠ y.fields.length := by omega
    repeat' (first | refine V_ ?_ | refine c_ (fun hc => ?_) (fun hc => ?_) | refine g_ (fun hg => ?_) (fun hg => ?_))
    apply aj (X := Nat) [0, 1, 13, 14, 5, 61] (fun k => [(62, .int .i64 (k : Int))]) (fun _ => []) (fun k => k ≤ x.fields.length ∧ x.fields.take k = y.fields.take k) (fun k => x.fields.length - k) 0 ⟨Nat.zero_le _, by simp⟩
    exact kp_; exact nw_
    · exact .refl _
    rintro k ⟨hk, hks⟩
    try dsimp only
    by_cases hkt : k < x.fields.length
    · have hkt2 : k < y.fields.length := by omega
      have hs1 := lQ hkt
      have hs2 := lQ hkt2
      have htk := gD hkt hkt2 hks
      have hnf : x.fields[k] ≠ y.fields[k] → x ≠ y := fun h e => h (by subst e; rfl)
      generalize x.fields[k] = u at hs1 htk hnf
      generalize y.fields[k] = v at hs2 htk hnf
      by_cases h4 : u = v
      case neg =>
        have h4' : u ≠ v := h4
        rw [hne (hnf h4)]
        repeat' (first | refine V_ ?_ | refine c_ (fun hc => ?_) (fun hc => ?_) | refine g_ (fun hg => ?_) (fun hg => ?_))
        exact r1_
      have h4' : ¬ u ≠ v := fun h => h h4
      repeat' (first | refine V_ ?_ | refine c_ (fun hc => ?_) (fun hc => ?_) | refine g_ (fun hg => ?_) (fun hg => ?_))
      exact ah (k + 1) ⟨by omega, htk h4⟩ (by omega) (.of _ nw_ od_ pk_)
    · rw [List.take_of_length_le (by omega), List.take_of_length_le (by omega)] at hks
      repeat' (first | refine W_ ?_ | refine c_ (fun hc => ?_) (fun hc => ?_) | refine g_ (fun hg => ?_) (fun hg => ?_))
      exact ah (i + 1) ⟨by omega, hta (hce h1 h2 hks)⟩ (by omega) (.of _ nw_ od_ pk_)
  · rw [List.take_of_length_le (by omega), List.take_of_length_le (by omega)] at hs
    rw [uK hs]
    repeat' (first | refine W_ ?_ | refine c_ (fun hc => ?_) (fun hc => ?_) | refine g_ (fun hg => ?_) (fun hg => ?_))
    exact r1_
end
end Go.Proofs.YtiihihgjiklnoaaGreatDoor
