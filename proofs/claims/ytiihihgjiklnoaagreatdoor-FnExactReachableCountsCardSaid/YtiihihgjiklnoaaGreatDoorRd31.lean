/- Part 31 of the proof. -/
import Derived.Test.YtiihihgjiklnoaaGreatDoorRd24
import Derived.Test.YtiihihgjiklnoaaGreatDoorRd25
import Derived.Test.YtiihihgjiklnoaaGreatDoorRd14
import Derived.Test.YtiihihgjiklnoaaGreatDoorRd26
import Derived.Test.YtiihihgjiklnoaaGreatDoorRd3
import Derived.Test.YtiihihgjiklnoaaGreatDoorRd27
import Derived.Test.YtiihihgjiklnoaaGreatDoorRd17
set_option maxHeartbeats 4000000
set_option maxRecDepth 20000
namespace Go.Proofs.YtiihihgjiklnoaaGreatDoor
open Go Go.RowKit
open Classical in
noncomputable def ux (m : ag) (n0 n1 n2 : Int) : Bool := decide (vc m n0 n1 n2)
open Classical in
theorem oC {m : ag} {n0 n1 n2 : Int} (h : ¬ vc m n0 n1 n2) : ux m n0 n1 n2 = false := decide_eq_false h
open Classical in
theorem rL {m : ag} {n0 n1 n2 : Int} (h : vc m n0 n1 n2) : ux m n0 n1 n2 = true := decide_eq_true h
theorem kz {m : ag} {n0 n2 : Int} : vc m n0 (-1) n2 ↔ n0 = -1 /\ n2 = 0 := by
 unfold vc
 rw [zj (by omega)]
 constructor
 ·rintro (⟨h1, _, h2⟩ | ⟨_, c, hc, _⟩)
  ·exact ⟨h1, h2⟩
  ·cases hc
 ·rintro ⟨h1, h2⟩; exact .inl ⟨h1, rfl, h2⟩
theorem tn {m : ag} {n0 n2 : Int} {u : Nat} (hu : u < m.contexts.length) : vc m n0 (u : Int) n2 ↔ n2 = 1 /\ m.contexts[u].mark = 3 /\ 0 <= n0 /\ OnW m n0 m.contexts[u].sender := by
 unfold vc
 rw [f5 hu]
 constructor
 ·rintro (⟨_, h, _⟩ | ⟨h2, c, hc, h3⟩)
  ·omega
  ·cases hc; exact ⟨h2, h3⟩
 ·rintro ⟨h2, h3⟩; exact .inr ⟨h2, _, rfl, h3⟩
theorem sS {m : ag} {n0 n1 n2 : Int} (h : n1 ≠ -1) (hu : ¬ (0 <= n1 /\ n1 < m.contexts.length)) : ¬ vc m n0 n1 n2 := by
 rintro (⟨_, h1, _⟩ | ⟨_, c, hc, _⟩)
 ·exact h h1
 ·obtain ⟨h0, h1, _⟩ := kt hc; omega
theorem tk {m : ag} {n0 n1 n2 : Int} (h : n1 ≠ -1) (h2 : n2 ≠ 1) : ¬ vc m n0 n1 n2 := by
 rintro (⟨_, h1, _⟩ | ⟨h1, _⟩)
 ·exact h h1
 ·exact h2 h1
open Classical in
theorem wK {m : ag} {a k : Int} : onB m a k = true ↔ OnW m a k := decide_eq_true_iff
theorem iD {l : List Int} {i : Nat} (h : i < l.length) : (aM l)[i]? = some [.int .i64 l[i]] := aE h
theorem lM {G : World -> Prop} (l1 l2 : Nat) (a b : List Int) (_hn : a.length <= 1048576) (hm : b.length <= 1048576) : Ct Tryz.prog G 280 [.sl l1 1 (aM a), .sl l2 1 (aM b)] (fun _ => .bool (decide (a = b))) := by
 refine ak Tryz.func280 rfl Tryz.ntmps280 rfl rfl fun w0 _ hG => ?_
 have hla := ap a
 have hlb := ap b
 by_cases hl : a.length = b.length
 ·repeat' refine W_ ?_
  apply am (X := Nat) [0, 1, 12] (fun i => [(13, .int .i64 (i : Int))]) (fun _ => []) (fun i => i <= a.length /\ a.take i = b.take i) (fun i => a.length - i) 0 ⟨Nat.zero_le _, by simp⟩
  exact kp_; exact nw_
  ·exact .refl _
  rintro i ⟨hi, hs⟩
  try dsimp only
  by_cases hlt : i < a.length
  ·have hr1 := iD hlt
   have hlt2 : i < b.length := by omega
   have hr2 := iD hlt2
   have hta : a[i] = b[i] -> a.take (i + 1) = b.take (i + 1) := fun e => by rw [List.take_add_one, List.take_add_one, hs, List.getElem?_eq_getElem hlt, List.getElem?_eq_getElem hlt2, e]
   have hne : a[i] ≠ b[i] -> decide (a = b) = false := fun h => decide_eq_false fun e => h (by subst e; rfl)
   generalize a[i] = x at hr1 hta hne
   generalize b[i] = y at hr2 hta hne
   by_cases hx : x = y
   ·have hx' : ¬ x ≠ y := fun h => h hx
    repeat' refine V_ ?_
    exact ah (i + 1) ⟨by omega, hta hx⟩ (by omega) (.of _ nw_ od_ pk_)
   ·have hx' : x ≠ y := hx
    rw [hne hx]
    repeat' refine V_ ?_
    exact r1_
  ·rw [List.take_of_length_le (by omega), List.take_of_length_le (by omega)] at hs
   rw [decide_eq_true hs]
   repeat' refine W_ ?_
   exact r1_
 ·rw [decide_eq_false (p := a = b) fun e => hl (by rw [e])]
  repeat' refine W_ ?_
  exact r1_
theorem lW {G : World -> Prop} (hst : ay G) (l1 l2 : Nat) (a b : List Int) (hn : a.length <= 1048576) (hm : b.length <= 1048576) : Ct Tryz.prog G 245 [.sl l1 1 (aM a), .sl l2 1 (aM b)] (fun _ => .bool (decide (a = b))) := by
 refine ak Tryz.func245 rfl Tryz.ntmps245 rfl rfl fun w0 _ hG => ?_
 repeat' (first | refine W_ ?_ | refine ac hG hst (lM l1 l2 a b hn hm) ?_)
 exact r1_
theorem mg (lo l2 : Nat) (m : ag) (hsm : m.small 1048576) (hsd : js m) (n0 n1 n2 : Int) : Ct Tryz.prog GL 184 [.agg (m.tw lo), .sl l2 1 [[.int .i64 n0], [.int .i64 n1], [.int .i64 n2]]] (fun _ => .bool (ux m n0 n1 n2)) := by
 refine ak Tryz.func184 rfl Tryz.ntmps184 rfl rfl fun w0 _ hG => ?_
 have hst := cU
 have hlx := ao.len lo m.contexts
 have hxl := hsm.2.2.2.1.1
 have hon := fun (k0 a : Int) h => sG (G := GL) w0.heap.size lo m hxl hsd k0 a h
 have hxr := fun (i : Nat) (h : i < m.contexts.length) => cr (lo := lo) (l := m.contexts) h
 have hsn := lW hst l2 w0.heap.size [n0, n1, n2] [-1, -1, 0] (by simp) (by simp)
 simp only [aM, List.map_cons, List.map_nil] at hsn
 unfold ag.tw at hon |-
 by_cases h1 : n1 = -1
 ·subst h1
  by_cases h0 : n0 = -1 /\ n2 = 0
  ·obtain ⟨rfl, rfl⟩ := h0
   rw [rL (kz.2 ⟨rfl, rfl⟩)]
   rw [decide_eq_true rfl] at hsn
   repeat' (first | refine W_ ?_ | refine aF ?_ | refine dl ?_ | refine ac hG hst (hsn) ?_)
   exact r1_
  rw [oC fun h => h0 (kz.1 h)]
  rw [decide_eq_false fun e => h0 (by simp at e; exact e)] at hsn
  have k1 := aI (G := GL) (-1) 0 ((m.contexts.length : Int) - 1)
  rw [show inR (-1) 0 ((m.contexts.length : Int) - 1) = false from by simp only [inR, decide_eq_false_iff_not]; omega] at k1
  have k2 := aI (G := GL) (-1) 0 ((m.contexts.length - 1 : Nat) : Int)
  rw [show inR (-1) 0 ((m.contexts.length - 1 : Nat) : Int) = false from by simp only [inR, decide_eq_false_iff_not]; omega] at k2
  by_cases hz : 1 <= m.contexts.length
  all_goals
    repeat' (first | refine V_ ?_ | refine aF ?_ | refine dl ?_ | refine ac hG hst (hsn) ?_ | refine ae hG hst (k1) ?_ | refine ae hG hst (k2) ?_ | refine g_ (fun hg => ?_) (fun hg => ?_))
    all_goals
      exact r1_
 rw [decide_eq_false fun e => h1 (by simp at e; exact e.2.1)] at hsn
 by_cases h2 : n2 = 1
 case neg =>
   rw [oC (tk h1 h2)]
   repeat' (first | refine V_ ?_ | refine aF ?_ | refine dl ?_ | refine ac hG hst (hsn) ?_)
   exact r1_
 have k1 := aI (G := GL) n1 0 ((m.contexts.length : Int) - 1)
 by_cases hin : 0 <= n1 /\ n1 < m.contexts.length
 case neg =>
   rw [oC (sS h1 hin)]
   rw [show inR n1 0 ((m.contexts.length : Int) - 1) = false from by simp only [inR, decide_eq_false_iff_not]; omega] at k1
   by_cases hz : 1 <= m.contexts.length
   ·rw [show (m.contexts.length : Int) - 1 = ((m.contexts.length - 1 : Nat) : Int) by omega] at k1
    repeat' (first | refine V_ ?_ | refine aF ?_ | refine dl ?_ | refine ac hG hst (hsn) ?_ | refine ae hG hst (k1) ?_)
    exact r1_
   ·repeat' (first | refine V_ ?_ | refine aF ?_ | refine dl ?_ | refine ac hG hst (hsn) ?_ | refine ae hG hst (k1) ?_)
    exact r1_
 rw [show inR n1 0 ((m.contexts.length : Int) - 1) = true from by simp only [inR, decide_eq_true_eq]; omega] at k1
 rw [show (m.contexts.length : Int) - 1 = ((m.contexts.length - 1 : Nat) : Int) by omega] at k1
 obtain ⟨u, rfl⟩ : ∃ u : Nat, n1 = u := ⟨n1.toNat, by omega⟩
 have hu : u < m.contexts.length := by omega
 have hru := hxr u hu
 have hiff := tn (m := m) (n0 := n0) (n2 := n2) hu
 have hsu := hsd u hu
 have hot := hon m.contexts[u].sender n0 (by omega)
 have hob : onB m n0 m.contexts[u].sender = true ↔ OnW m n0 m.contexts[u].sender := wK
 generalize onB m n0 m.contexts[u].sender = b at hot hob
 rw [<- hob] at hiff
 generalize m.contexts[u] = c at hru hiff hot
 have hF := oC (m := m) (n0 := n0) (n1 := (u : Int)) (n2 := n2)
 have hT := rL (m := m) (n0 := n0) (n1 := (u : Int)) (n2 := n2)
 rw [hiff] at hF hT
 generalize ux m n0 (u : Int) n2 = V at hF hT |-
 by_cases h3 : c.mark = 3
 case neg =>
   rw [hF fun h => h3 h.2.1]
   repeat' (first | refine V_ ?_ | refine aF ?_ | refine dl ?_ | refine ac hG hst (hsn) ?_ | refine ae hG hst (k1) ?_)
   exact r1_
 by_cases h0 : 0 <= n0
 case neg =>
   rw [hF fun h => h0 h.2.2.1]
   repeat' (first | refine V_ ?_ | refine aF ?_ | refine dl ?_ | refine ac hG hst (hsn) ?_ | refine ae hG hst (k1) ?_)
   exact r1_
 cases b
 ·rw [hF fun h => by have := h.2.2.2; cases this]
  repeat' (first | refine V_ ?_ | refine aF ?_ | refine dl ?_ | refine ac hG hst (hsn) ?_ | refine ae hG hst (k1) ?_ | refine ae hG hst (hot) ?_)
  exact r1_
 ·rw [hT ⟨h2, h3, h0, rfl⟩]
  repeat' (first | refine V_ ?_ | refine aF ?_ | refine dl ?_ | refine ac hG hst (hsn) ?_ | refine ae hG hst (k1) ?_ | refine ae hG hst (hot) ?_)
  exact r1_
instance : Enc CbP := inferInstanceAs (Enc (((Nat × Nat) × List (Nat × Nat)) × ((Nat × Nat) × List (Nat × Nat)) × (Nat × Nat)))
instance {A B : Type} [Enc (List A)] [Enc (List B)] : Enc (List (A × B)) := ⟨fun y => Enc.enc (y.map Prod.fst, y.map Prod.snd), fun y => match (Enc.dec y : List A × List B) with | (a, b) => a.zip b, fun y => by
 rw [Enc.eq]
 induction y with
 | nil => rfl
 | cons z y ih => simpa using ih⟩
instance : Enc StP := inferInstanceAs (Enc (((Nat × Nat) × List (Nat × Nat)) × ((Nat × Nat) × List ((Nat × Nat) × (Nat × Nat))) × (Nat × Nat)))
instance : Enc abm := inferInstanceAs (Enc (CbP × StP × (Nat × Nat) × ((Nat × Nat) × List ((Nat × Nat) × (Nat × Nat) × (Nat × Nat))) × (Nat × Nat) × (Nat × Nat)))
theorem ko (L : List aK) (p : List Nat) {n : Nat} (hn : L.length = n) (h : p.isPerm (List.range n) = true) : (p.map (fun i => L.getD i [])).flatten.Perm L.flatten := by
 subst hn
 have h1 := (List.isPerm_iff.1 h).map (fun i => L.getD i [])
 have h2 : (List.range L.length).map (fun i => L.getD i []) = L := by
   apply List.ext_getElem
   ·simp
   ·intro i h1 h2
    simp at h1
    simp [h2]
 rw [h2] at h1
 exact xo h1
theorem bp {a b : aK} (h : a = b) : dp a b := h ▸ .refl _
section
variable {G : World -> Prop}
end
end Go.Proofs.YtiihihgjiklnoaaGreatDoor
