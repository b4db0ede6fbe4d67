/- Part 38 of the proof: the texts ImG0, ImP0, SwP. -/
import Derived.Test.YtiihihgjiklnoaaGreatDoorSr24
import Derived.Test.YtiihihgjiklnoaaGreatDoorSr8
import Derived.Test.YtiihihgjiklnoaaGreatDoorSr35
import Derived.Test.YtiihihgjiklnoaaGreatDoorSr34
set_option linter.all false
set_option maxHeartbeats 4000000
set_option maxRecDepth 20000
namespace Go.Proofs.YtiihihgjiklnoaaGreatDoor
open Go Go.RowKit
open Classical in
noncomputable def yq (a b : List aa) : Bool := decide (a = b)
open Classical in
theorem pM {a b : List aa} (h : ¬ a = b) : yq a b = false := decide_eq_false h
open Classical in
theorem wy {a b : List aa} (h : a = b) : yq a b = true := decide_eq_true h
theorem act {x y : aa} (h1 : x.name = y.name) (h2 : x.parent = y.parent) (h3 : x.fields = y.fields) : x = y := by
 cases x; cases y; simp_all
theorem im {α : Type} {a b : List α} {i : Nat} (ha : i < a.length) (hb : i < b.length) (h : a.take i = b.take i) (e : a[i] = b[i]) : a.take (i + 1) = b.take (i + 1) := by
 rw [dN ha, dN hb, h, e]
section
variable {G : World -> Prop}
theorem yD (hst : az G) (l1 l2 : Nat) (a b : List aa) (ha : a.length <= 1048576 /\ ∀ y ∈ a, aa.small 1048576 y) (hb : b.length <= 1048576 /\ ∀ y ∈ b, aa.small 1048576 y) : Ct Tryz.prog G 161 [.sl l1 3 (a.map (aa.tw l1)), .sl l2 3 (b.map (aa.tw l2))] (fun _ => .bool (yq a b)) := by
 refine aq Tryz.func161 rfl Tryz.ntmps161 rfl rfl fun w0 _ hG => ?_
 have hla := aa.len l1 a
 have hlb := aa.len l2 b
 have ha1 := ha.1
 have hb1 := hb.1
 by_cases hl : a.length = b.length
 case neg =>
   rw [pM fun e => hl (by rw [e])]
   repeat' refine W_ ?_
   exact r1_
 repeat' refine W_ ?_
 apply ak (X := Nat) [0, 1] (fun i => [(5, .int .i64 (i : Int))]) (fun _ => []) (fun i => i <= a.length /\ a.take i = b.take i) (fun i => a.length - i) 0 ⟨Nat.zero_le _, by simp⟩
 exact kp_; exact nw_
 ·exact .refl _
 rintro i ⟨hi, hs⟩
 try dsimp only
 by_cases hlt : i < a.length
 ·have hr1 := i9 (lo := l1) hlt
  have hlt2 : i < b.length := by omega
  have hr2 := i9 (lo := l2) hlt2
  have hta := im hlt hlt2 hs
  have hne : a[i] ≠ b[i] -> yq a b = false := fun h => pM fun e => h (by subst e; rfl)
  have hsa := (ha.2 _ (List.getElem_mem hlt)).2.1
  have hsb := (hb.2 _ (List.getElem_mem hlt2)).2.1
  have hce := act (x := a[i]) (y := b[i])
  generalize a[i] = x at hr1 hta hne hsa hce
  generalize b[i] = y at hr2 hta hne hsb hce
  have c1 := jl (G := G) l1 l2 x.fields y.fields hsa hsb
  by_cases h1 : x.name = y.name
  case neg =>
    have h1' : x.name ≠ y.name := h1
    rw [hne fun e => h1 (by rw [e])]
    repeat' refine V_ ?_
    exact r1_
  have h1' : ¬ x.name ≠ y.name := fun h => h h1
  by_cases h2 : x.parent = y.parent
  case neg =>
    have h2' : x.parent ≠ y.parent := h2
    rw [hne fun e => h2 (by rw [e])]
    repeat' refine V_ ?_
    exact r1_
  have h2' : ¬ x.parent ≠ y.parent := fun h => h h2
  by_cases h3 : x.fields = y.fields
  case neg =>
    rw [decide_eq_false h3] at c1
    rw [hne fun e => h3 (by rw [e])]
    repeat' (first | refine V_ ?_ | refine ae hG hst (c1) ?_)
    exact r1_
  rw [decide_eq_true h3] at c1
  repeat' (first | refine V_ ?_ | refine ae hG hst (c1) ?_)
  exact ag (i + 1) ⟨by omega, hta (hce h1 h2 h3)⟩ (by omega) (.of _ nw_ od_ pk_)
 ·rw [List.take_of_length_le (by omega), List.take_of_length_le (by omega)] at hs
  rw [wy hs]
  repeat' refine W_ ?_
  exact r1_
theorem oR (l1 l2 : Nat) (a b : List aa) (ha : a.length <= 1048576 /\ ∀ y ∈ a, aa.small 1048576 y) (hb : b.length <= 1048576 /\ ∀ y ∈ b, aa.small 1048576 y) : Ct Tryz.prog G 178 [.sl l1 3 (a.map (aa.tw l1)), .sl l2 3 (b.map (aa.tw l2))] (fun _ => .bool (yq a b)) := by
 refine aq Tryz.func178 rfl Tryz.ntmps178 rfl rfl fun w0 _ hG => ?_
 have hla := aa.len l1 a
 have hlb := aa.len l2 b
 have ha1 := ha.1
 have hb1 := hb.1
 by_cases hl : a.length = b.length
 case neg =>
   rw [pM fun e => hl (by rw [e])]
   repeat' refine W_ ?_
   exact r1_
 repeat' refine W_ ?_
 apply ak (X := Nat) [0, 1, 13] (fun i => [(14, .int .i64 (i : Int))]) (fun _ => []) (fun i => i <= a.length /\ a.take i = b.take i) (fun i => a.length - i) 0 ⟨Nat.zero_le _, by simp⟩
 exact kp_; exact nw_
 ·exact .refl _
 rintro i ⟨hi, hs⟩
 try dsimp only
 by_cases hlt : i < a.length
 ·have hr1 := i9 (lo := l1) hlt
  have hlt2 : i < b.length := by omega
  have hr2 := i9 (lo := l2) hlt2
  have hta := im hlt hlt2 hs
  have hne : a[i] ≠ b[i] -> yq a b = false := fun h => pM fun e => h (by subst e; rfl)
  have hsa := (ha.2 _ (List.getElem_mem hlt)).2.1
  have hsb := (hb.2 _ (List.getElem_mem hlt2)).2.1
  have hce := act (x := a[i]) (y := b[i])
  generalize a[i] = x at hr1 hta hne hsa hce
  generalize b[i] = y at hr2 hta hne hsb hce
  have hxl := bT x.fields
  have hyl := bT y.fields
  by_cases h1 : x.name = y.name
  case neg =>
    have h1' : x.name ≠ y.name := h1
    rw [hne fun e => h1 (by rw [e])]
    repeat' refine V_ ?_
    exact r1_
  have h1' : ¬ x.name ≠ y.name := fun h => h h1
  by_cases h2 : x.parent = y.parent
  case neg =>
    have h2' : x.parent ≠ y.parent := h2
    rw [hne fun e => h2 (by rw [e])]
    repeat' refine V_ ?_
    exact r1_
  have h2' : ¬ x.parent ≠ y.parent := fun h => h h2
  by_cases h3 : x.fields.length = y.fields.length
  case neg =>
    have h3' : (x.fields.length : Int) ≠ y.fields.length := by omega
    rw [hne fun e => h3 (by rw [e])]
    repeat' refine V_ ?_
    exact r1_
  have h3' : ¬ (x.fields.length : Int) ≠ y.fields.length := by omega
  repeat' refine V_ ?_
  apply ak (X := Nat) [0, 1, 13, 14, 5, 61] (fun k => [(62, .int .i64 (k : Int))]) (fun _ => []) (fun k => k <= x.fields.length /\ x.fields.take k = y.fields.take k) (fun k => x.fields.length - k) 0 ⟨Nat.zero_le _, by simp⟩
  exact kp_; exact nw_
  ·exact .refl _
  rintro k ⟨hk, hks⟩
  try dsimp only
  by_cases hkt : k < x.fields.length
  ·have hkt2 : k < y.fields.length := by omega
   have hs1 := mM hkt
   have hs2 := mM hkt2
   have htk := im hkt hkt2 hks
   have hnf : x.fields[k] ≠ y.fields[k] -> x ≠ y := fun h e => h (by subst e; rfl)
   generalize x.fields[k] = u at hs1 htk hnf
   generalize y.fields[k] = v at hs2 htk hnf
   by_cases h4 : u = v
   case neg =>
     have h4' : u ≠ v := h4
     rw [hne (hnf h4)]
     repeat' refine V_ ?_
     exact r1_
   have h4' : ¬ u ≠ v := fun h => h h4
   repeat' refine V_ ?_
   exact ag (k + 1) ⟨by omega, htk h4⟩ (by omega) (.of _ nw_ od_ pk_)
  ·rw [List.take_of_length_le (by omega), List.take_of_length_le (by omega)] at hks
   repeat' refine W_ ?_
   exact ag (i + 1) ⟨by omega, hta (hce h1 h2 hks)⟩ (by omega) (.of _ nw_ od_ pk_)
 ·rw [List.take_of_length_le (by omega), List.take_of_length_le (by omega)] at hs
  rw [wy hs]
  repeat' refine W_ ?_
  exact r1_
end
structure aef (m : ao) : Prop where
 ver : dr m.base = true
 same : m.base.classes = m.store.classes
 store : jJ m.store m.blocks.length = true
 made : (m.store.objects.length : Int) + m.blocks.length <= m.store.made
 status : inR m.status 0 5 = true
 procs : inR m.processes.length 1 20 = true
 now : inR m.now 0 ((m.processes.length : Int) - 1) = true
 value : mS m m.value
 fault : fX m.fault = true
 outs : ∀ o, eZ m.base.codes = some o -> ado m o
 ats : ∀ p ∈ m.processes, inR p.at_ (-1) ((m.contexts.length : Int) - 1) = true
 live : ud m (oF m ++ m.ready ++ uW m)
 exc : ∀ o ∈ m.store.objects, wn m o
open Classical in
noncomputable def eI (m : ao) : Bool := decide (aef m)
open Classical in
theorem zS {m : ao} (h : ¬ aef m) : eI m = false := decide_eq_false h
open Classical in
theorem yS {m : ao} (h : aef m) : eI m = true := decide_eq_true h
theorem lU {st : aR} {nb : Int} (h : jJ st nb = true) : bU st.classes = true /\ st.objects.length <= 800 /\ ∀ o ∈ st.objects, o.kind = 3 -> 1 <= o.numbers.length := by
 unfold jJ at h
 simp only [Bool.and_eq_true] at h
 obtain ⟨h1, h2, _, _, _, _, h7⟩ := h
 have h2 := of_decide_eq_true h2
 refine ⟨h1, by omega, fun o ho h3 => ?_⟩
 have h8 := List.all_eq_true.1 h7 o ho
 unfold f7 at h8
 simp only [Bool.and_eq_true] at h8
 have h9 := h8.2
 rw [if_neg (by omega), if_neg (by omega), if_pos h3] at h9
 exact (of_decide_eq_true h9).2.2.1
open Classical in
theorem gE {x : aD} (h : dr x = true) : 1 <= x.codes.length /\ ∃ o, eZ x.codes = some o /\ o.length = x.codes.length := by
 have hp : fQ x := of_decide_eq_true h
 obtain ⟨o, ho, _⟩ := hp.2.2.2.2
 have h1 := of_decide_eq_true hp.2.2.1.1
 exact ⟨by omega, o, ho, (jW ho).1.1⟩
def aem {α : Type} (l : List α) (i j : Nat) : List α := match l[i]?, l[j]? with
 | some a, some b => (l.set i b).set j a
 | _, _ => l
noncomputable def ch (m : ao) (i j : Int) : Bool := eI m && (inR i 0 ((m.store.objects.length : Int) - 1) && inR j 0 ((m.store.objects.length : Int) - 1))
noncomputable def lN (m : ao) (i j : Int) : ao := if ch m i j = true then ⟨m.base, ⟨m.store.classes, aem m.store.objects i.toNat j.toNat, m.store.output, m.store.ticks, m.store.budget, m.store.made⟩, m.blocks, m.contexts, m.processes, m.ready, m.now, m.status, m.value, m.fault⟩ else zIm
def ownL (l : List aa) (n : Nat) : List ByteArray := match l[n]? with | some c => c.fields.drop (eh l c).length | none => []
end Go.Proofs.YtiihihgjiklnoaaGreatDoor
