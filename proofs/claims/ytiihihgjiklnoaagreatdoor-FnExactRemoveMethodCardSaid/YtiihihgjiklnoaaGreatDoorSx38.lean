/- Part 38 of the proof. -/
import Derived.Test.YtiihihgjiklnoaaGreatDoorSx24
import Derived.Test.YtiihihgjiklnoaaGreatDoorSx8
import Derived.Test.YtiihihgjiklnoaaGreatDoorSx35
import Derived.Test.YtiihihgjiklnoaaGreatDoorSx34
set_option maxHeartbeats 4000000
set_option maxRecDepth 20000
namespace Go.Proofs.YtiihihgjiklnoaaGreatDoor
open Go Go.RowKit
open Classical in
noncomputable def yf (a b : List aa) : Bool := decide (a = b)
open Classical in
theorem pM {a b : List aa} (h : ¬ a = b) : yf a b = false := decide_eq_false h
open Classical in
theorem wL {a b : List aa} (h : a = b) : yf a b = true := decide_eq_true h
theorem acQ {x y : aa} (h1 : x.name = y.name) (h2 : x.parent = y.parent) (h3 : x.fields = y.fields) : x = y := by
 cases x; cases y; simp_all
theorem ig {α : Type} {a b : List α} {i : Nat} (ha : i < a.length) (hb : i < b.length) (h : a.take i = b.take i) (e : a[i] = b[i]) : a.take (i + 1) = b.take (i + 1) := by
 rw [cY ha, cY hb, h, e]
section
variable {G : World -> Prop}
theorem yh (hst : ay G) (l1 l2 : Nat) (a b : List aa) (ha : a.length <= 1048576 /\ ∀ y ∈ a, aa.small 1048576 y) (hb : b.length <= 1048576 /\ ∀ y ∈ b, aa.small 1048576 y) : Ct Tryz.prog G 161 [.sl l1 3 (a.map (aa.tw l1)), .sl l2 3 (b.map (aa.tw l2))] (fun _ => .bool (yf a b)) := by
 refine ap Tryz.func161 rfl Tryz.ntmps161 rfl rfl fun w0 _ hG => ?_
 have hla := aa.len l1 a
 have hlb := aa.len l2 b
 have ha1 := ha.1
 have hb1 := hb.1
 by_cases hl : a.length = b.length
 case neg =>
   rw [pM fun e => hl (by rw [e])]
   repeat' refine W_ ?_
   exact r1_
 repeat' refine W_ ?_
 apply aj (X := Nat) [0, 1] (fun i => [(5, .int .i64 (i : Int))]) (fun _ => []) (fun i => i <= a.length /\ a.take i = b.take i) (fun i => a.length - i) 0 ⟨Nat.zero_le _, by simp⟩
 exact kp_; exact nw_
 ·exact .refl _
 rintro i ⟨hi, hs⟩
 try dsimp only
 by_cases hlt : i < a.length
 ·have hr1 := iU (lo := l1) hlt
  have hlt2 : i < b.length := by omega
  have hr2 := iU (lo := l2) hlt2
  have hta := ig hlt hlt2 hs
  have hne : a[i] ≠ b[i] -> yf a b = false := fun h => pM fun e => h (by subst e; rfl)
  have hsa := (ha.2 _ (List.getElem_mem hlt)).2.1
  have hsb := (hb.2 _ (List.getElem_mem hlt2)).2.1
  have hce := acQ (x := a[i]) (y := b[i])
  generalize a[i] = x at hr1 hta hne hsa hce
  generalize b[i] = y at hr2 hta hne hsb hce
  have c1 := jy (G := G) l1 l2 x.fields y.fields hsa hsb
  by_cases h1 : x.name = y.name
  case neg =>
    have h1' : x.name ≠ y.name := h1
    rw [hne fun e => h1 (by rw [e])]
    repeat' refine V_ ?_
    exact r1_
  have h1' : ¬ x.name ≠ y.name := fun h => h h1
  by_cases h2 : x.parent = y.parent
  case neg =>
    have h2' : x.parent ≠ y.parent := h2
    rw [hne fun e => h2 (by rw [e])]
    repeat' refine V_ ?_
    exact r1_
  have h2' : ¬ x.parent ≠ y.parent := fun h => h h2
  by_cases h3 : x.fields = y.fields
  case neg =>
    rw [decide_eq_false h3] at c1
    rw [hne fun e => h3 (by rw [e])]
    repeat' (first | refine V_ ?_ | refine ae hG hst (c1) ?_)
    exact r1_
  rw [decide_eq_true h3] at c1
  repeat' (first | refine V_ ?_ | refine ae hG hst (c1) ?_)
  exact ag (i + 1) ⟨by omega, hta (hce h1 h2 h3)⟩ (by omega) (.of _ nw_ od_ pk_)
 ·rw [List.take_of_length_le (by omega), List.take_of_length_le (by omega)] at hs
  rw [wL hs]
  repeat' refine W_ ?_
  exact r1_
theorem pe (l1 l2 : Nat) (a b : List aa) (ha : a.length <= 1048576 /\ ∀ y ∈ a, aa.small 1048576 y) (hb : b.length <= 1048576 /\ ∀ y ∈ b, aa.small 1048576 y) : Ct Tryz.prog G 178 [.sl l1 3 (a.map (aa.tw l1)), .sl l2 3 (b.map (aa.tw l2))] (fun _ => .bool (yf a b)) := by
 refine ap Tryz.func178 rfl Tryz.ntmps178 rfl rfl fun w0 _ hG => ?_
 have hla := aa.len l1 a
 have hlb := aa.len l2 b
 have ha1 := ha.1
 have hb1 := hb.1
 by_cases hl : a.length = b.length
 case neg =>
   rw [pM fun e => hl (by rw [e])]
   repeat' refine W_ ?_
   exact r1_
 repeat' refine W_ ?_
 apply aj (X := Nat) [0, 1, 13] (fun i => [(14, .int .i64 (i : Int))]) (fun _ => []) (fun i => i <= a.length /\ a.take i = b.take i) (fun i => a.length - i) 0 ⟨Nat.zero_le _, by simp⟩
 exact kp_; exact nw_
 ·exact .refl _
 rintro i ⟨hi, hs⟩
 try dsimp only
 by_cases hlt : i < a.length
 ·have hr1 := iU (lo := l1) hlt
  have hlt2 : i < b.length := by omega
  have hr2 := iU (lo := l2) hlt2
  have hta := ig hlt hlt2 hs
  have hne : a[i] ≠ b[i] -> yf a b = false := fun h => pM fun e => h (by subst e; rfl)
  have hsa := (ha.2 _ (List.getElem_mem hlt)).2.1
  have hsb := (hb.2 _ (List.getElem_mem hlt2)).2.1
  have hce := acQ (x := a[i]) (y := b[i])
  generalize a[i] = x at hr1 hta hne hsa hce
  generalize b[i] = y at hr2 hta hne hsb hce
  have hxl := bJ x.fields
  have hyl := bJ y.fields
  by_cases h1 : x.name = y.name
  case neg =>
    have h1' : x.name ≠ y.name := h1
    rw [hne fun e => h1 (by rw [e])]
    repeat' refine V_ ?_
    exact r1_
  have h1' : ¬ x.name ≠ y.name := fun h => h h1
  by_cases h2 : x.parent = y.parent
  case neg =>
    have h2' : x.parent ≠ y.parent := h2
    rw [hne fun e => h2 (by rw [e])]
    repeat' refine V_ ?_
    exact r1_
  have h2' : ¬ x.parent ≠ y.parent := fun h => h h2
  by_cases h3 : x.fields.length = y.fields.length
  case neg =>
    have h3' : (x.fields.length : Int) ≠ y.fields.length := by omega
    rw [hne fun e => h3 (by rw [e])]
    repeat' refine V_ ?_
    exact r1_
  have h3' : ¬ (x.fields.length : Int) ≠ y.fields.length := by omega
  repeat' refine V_ ?_
  apply aj (X := Nat) [0, 1, 13, 14, 5, 61] (fun k => [(62, .int .i64 (k : Int))]) (fun _ => []) (fun k => k <= x.fields.length /\ x.fields.take k = y.fields.take k) (fun k => x.fields.length - k) 0 ⟨Nat.zero_le _, by simp⟩
  exact kp_; exact nw_
  ·exact .refl _
  rintro k ⟨hk, hks⟩
  try dsimp only
  by_cases hkt : k < x.fields.length
  ·have hkt2 : k < y.fields.length := by omega
   have hs1 := mY hkt
   have hs2 := mY hkt2
   have htk := ig hkt hkt2 hks
   have hnf : x.fields[k] ≠ y.fields[k] -> x ≠ y := fun h e => h (by subst e; rfl)
   generalize x.fields[k] = u at hs1 htk hnf
   generalize y.fields[k] = v at hs2 htk hnf
   by_cases h4 : u = v
   case neg =>
     have h4' : u ≠ v := h4
     rw [hne (hnf h4)]
     repeat' refine V_ ?_
     exact r1_
   have h4' : ¬ u ≠ v := fun h => h h4
   repeat' refine V_ ?_
   exact ag (k + 1) ⟨by omega, htk h4⟩ (by omega) (.of _ nw_ od_ pk_)
  ·rw [List.take_of_length_le (by omega), List.take_of_length_le (by omega)] at hks
   repeat' refine W_ ?_
   exact ag (i + 1) ⟨by omega, hta (hce h1 h2 hks)⟩ (by omega) (.of _ nw_ od_ pk_)
 ·rw [List.take_of_length_le (by omega), List.take_of_length_le (by omega)] at hs
  rw [wL hs]
  repeat' refine W_ ?_
  exact r1_
end
structure ae7 (m : ak) : Prop where
 ver : dv m.base = true
 same : m.base.classes = m.store.classes
 store : kO m.store m.blocks.length = true
 made : (m.store.objects.length : Int) + m.blocks.length <= m.store.made
 status : inR m.status 0 5 = true
 procs : inR m.processes.length 1 20 = true
 now : inR m.now 0 ((m.processes.length : Int) - 1) = true
 value : wl m m.value
 fault : ga m.fault = true
 outs : ∀ o, fe m.base.codes = some o -> adm m o
 ats : ∀ p ∈ m.processes, inR p.at_ (-1) ((m.contexts.length : Int) - 1) = true
 live : sy m (nU m ++ m.ready ++ wv m)
 exc : ∀ o ∈ m.store.objects, xM m o
open Classical in
noncomputable def dK (m : ak) : Bool := decide (ae7 m)
open Classical in
theorem aag {m : ak} (h : ¬ ae7 m) : dK m = false := decide_eq_false h
open Classical in
theorem aac {m : ak} (h : ae7 m) : dK m = true := decide_eq_true h
theorem my {st : aP} {nb : Int} (h : kO st nb = true) : ce st.classes = true /\ st.objects.length <= 800 /\ ∀ o ∈ st.objects, o.kind = 3 -> 1 <= o.numbers.length := by
 unfold kO at h
 simp only [Bool.and_eq_true] at h
 obtain ⟨h1, h2, _, _, _, _, h7⟩ := h
 have h2 := of_decide_eq_true h2
 refine ⟨h1, by omega, fun o ho h3 => ?_⟩
 have h8 := List.all_eq_true.1 h7 o ho
 unfold gx at h8
 simp only [Bool.and_eq_true] at h8
 have h9 := h8.2
 rw [if_neg (by omega), if_neg (by omega), if_pos h3] at h9
 exact (of_decide_eq_true h9).2.2.1
open Classical in
theorem jO {x : aB} (h : dv x = true) : 1 <= x.codes.length /\ ∃ o, fe x.codes = some o /\ o.length = x.codes.length := by
 have hp : fV x := of_decide_eq_true h
 obtain ⟨o, ho, _⟩ := hp.2.2.2.2
 have h1 := of_decide_eq_true hp.2.2.1.1
 exact ⟨by omega, o, ho, (ka ho).1.1⟩
def gM {α : Type} (l : List α) (i j : Nat) : List α := match l[i]?, l[j]? with
 | some a, some b => (l.set i b).set j a
 | _, _ => l
theorem lc {α : Type} {l : List α} {i j : Nat} (hi : i < l.length) (hj : j < l.length) : gM l i j = (l.set i l[j]).set j l[i] := by
 unfold gM
 rw [List.getElem?_eq_getElem hi, List.getElem?_eq_getElem hj]
theorem kr {α : Type} (l : List α) (i j : Nat) : (gM l i j).length = l.length := by
 unfold gM
 split <;> simp
theorem yU {α : Type} (l : List α) {i j : Nat} (hi : i < l.length) (hj : j < l.length) : (gM l i j).Perm l := by
 rw [lc hi hj]
 have h := Array.swap_perm (xs := l.toArray) (i := i) (j := j) (by simpa using hi) (by simpa using hj)
 have h2 := Array.perm_iff_toList_perm.1 h
 simpa [Array.swap] using h2
theorem zE {α : Type} {l : List α} {i j : Nat} {x : α} (h : x ∈ gM l i j) : x ∈ l := by
 unfold gM at h
 split at h
 ·rename_i a b ha hb
  rcases List.mem_or_eq_of_mem_set h with h | rfl
  ·rcases List.mem_or_eq_of_mem_set h with h | rfl
   ·exact h
   ·exact List.mem_of_getElem? hb
  ·exact List.mem_of_getElem? ha
 ·exact h
theorem sX {α β γ : Type} (f : α -> β -> γ) {l : List α} {ps : List β} {i j : Nat} (hp : ps.length = l.length) (hi : i < l.length) (hj : j < l.length) : List.zipWith f (gM l i j) (gM ps i j) = gM (List.zipWith f l ps) i j := by
 have hl : (List.zipWith f l ps).length = l.length := by simp [hp]
 rw [lc hi hj, lc (l := ps) (by omega) (by omega), lc (l := List.zipWith f l ps) (by omega) (by omega)]
 apply List.ext_getElem?
 intro k
 simp only [List.getElem?_zipWith, List.getElem?_set, List.length_set, List.getElem_zipWith, hl, hp]
 by_cases h1 : j = k
 ·simp [h1, h1 ▸ hj]
 ·by_cases h2 : i = k
  ·simp [h1, h2, h2 ▸ hi]
  ·simp [h1, h2]
noncomputable def cf (m : ak) (i j : Int) : Bool := dK m && (inR i 0 ((m.store.objects.length : Int) - 1) && inR j 0 ((m.store.objects.length : Int) - 1))
noncomputable def bB (m : ak) (i j : Int) : ak := if cf m i j = true then ⟨m.base, ⟨m.store.classes, gM m.store.objects i.toNat j.toNat, m.store.output, m.store.ticks, m.store.budget, m.store.made⟩, m.blocks, m.contexts, m.processes, m.ready, m.now, m.status, m.value, m.fault⟩ else zIm
theorem kP {m : ak} (hb : m.small 1048576) (i j : Int) : (bB m i j).small 1048576 := by
 unfold bB
 split
 ·exact ⟨hb.1, ⟨hb.2.1.1, ⟨by rw [kr]; exact hb.2.1.2.1.1, fun y hy => hb.2.1.2.1.2 y (zE hy)⟩, hb.2.1.2.2⟩, hb.2.2⟩
 ·exact ur _
def zJ (c : Int) (s : Bool) (sel : ByteArray) (e : ar) : Bool := decide (e.owner = c) && (e.class_ == s && decide (e.selector = sel))
def zr (m : ak) (c : Int) (s : Bool) (sel : ByteArray) : List ar := m.base.entries.filter fun e => !zJ c s sel e
noncomputable def co (m : ak) (c : Int) (s : Bool) (sel : ByteArray) : Bool := dK m && decide ((zr m c s sel).length ≠ m.base.entries.length)
noncomputable def bC (m : ak) (c : Int) (s : Bool) (sel : ByteArray) : ak := if co m c s sel = true then ⟨⟨m.base.classes, m.base.codes, zr m c s sel, m.base.main⟩, m.store, m.blocks, m.contexts, m.processes, m.ready, m.now, m.status, m.value, m.fault⟩ else zIm
theorem km {m : ak} (hb : m.small 1048576) (c : Int) (s : Bool) (sel : ByteArray) : (bC m c s sel).small 1048576 := by
 unfold bC
 split
 ·exact ⟨⟨hb.1.1, hb.1.2.1, ⟨Nat.le_trans (List.length_filter_le _ _) hb.1.2.2.1, fun y hy => hb.1.2.2.2 y (List.mem_filter.1 hy).1⟩⟩, hb.2⟩
 ·exact ur _
def ownL (l : List aa) (n : Nat) : List ByteArray := match l[n]? with | some c => c.fields.drop (en l c).length | none => []
end Go.Proofs.YtiihihgjiklnoaaGreatDoor
