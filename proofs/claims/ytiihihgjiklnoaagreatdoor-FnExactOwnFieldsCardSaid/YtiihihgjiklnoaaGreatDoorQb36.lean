/- Part 36 of the proof: the texts ImM, ImN, ImP. -/
import Derived.Test.YtiihihgjiklnoaaGreatDoorQb31
import Derived.Test.YtiihihgjiklnoaaGreatDoorQb30
import Derived.Test.YtiihihgjiklnoaaGreatDoorQb16
/- IsImage: the ways outwards and the exceptions, the reference's side. -/
namespace Go.Proofs.YtiihihgjiklnoaaGreatDoor
set_option maxRecDepth 20000
set_option maxHeartbeats 2000000
open Go Go.RowKit
open Classical in
theorem ji {m : ak} {a : Int} (h : ¬ di m a) : iW m a = false := decide_eq_false h
open Classical in
theorem qG {m : ak} {a : Int} (h : di m a) : iW m a = true := decide_eq_true h
theorem qB {lo : Nat} {l : List ar} {i : Nat} (h : i < l.length) : (l.map (ar.tw lo))[i]? = some [.int .i64 l[i].at_, .bool l[i].main] := aH h
theorem x7 {m : ak} {u : Nat} (hu : u < m.contexts.length) : di m (u : Int) ↔ m.contexts[u].mark = 0 ∧ mW m m.contexts[u] 0 = true ∧ we m 1 m.contexts[u].sender := by
  unfold di
  rw [jn hu]
  constructor
  · rintro ⟨c, hc, h1, h2⟩
    cases hc
    exact ⟨h1, (lR hu).1 h2⟩
  · rintro ⟨h1, h2⟩
    exact ⟨_, rfl, h1, (lR hu).2 h2⟩
set_option maxHeartbeats 4000000 in
theorem tf (f lo : Nat) (m : ak) (hsm : m.small 1048576) (hdep : ∀ c ∈ m.base.codes, jm c.instrs = true ∧ ∃ ds, bR c.instrs = some ds ∧ ds.length = c.instrs.length) (hsd : fz m)
    (hpl : ∀ (i : Nat) (h : i < m.contexts.length), m.contexts[i].mark = 0 → (0 ≤ m.contexts[i].code ∧ m.contexts[i].code < m.base.codes.length) ∧ 0 ≤ m.contexts[i].pc) (p : Nat) (hp : p < m.processes.length) : Ct Tryz.prog GL 169 [.cp f (m.tw lo), .int .i64 (p : Int)] (fun _ => .bool (iW m m.processes[p].at_)) := by
  refine ao Tryz.func169 rfl Tryz.ntmps169 rfl rfl fun w0 _ hG => ?_
  have hst := df
  have hlx := am.len lo m.contexts
  have hlp := ar.len lo m.processes
  have hxl := hsm.2.2.2.1.1
  have hpl1 := hsm.2.2.2.2.1.1
  have hrp := qB (lo := lo) hp
  have hxr := fun (i : Nat) (h : i < m.contexts.length) => cN (lo := lo) (l := m.contexts) h
  have hde := fun (i : Nat) (h : i < m.contexts.length) hc less => tX f lo m hsm hdep i h hc less
  have hon := fun (k0 a : Int) h => vK (G := GL) f lo m hxl hsd k0 a h
  generalize m.processes[p] = pr at hrp ⊢
  obtain ⟨at0, mn⟩ := pr
  dsimp only at hrp ⊢
  have k1 := a7 (G := GL) at0 0 ((m.contexts.length : Int) - 1)
  unfold ak.tw at hde hon ⊢
  by_cases hin : 0 ≤ at0 ∧ at0 < m.contexts.length
  case neg =>
    rw [ji fun h => hin (by
      obtain ⟨c, hc, _⟩ := h
      obtain ⟨h0, h1, _⟩ := lE hc
      omega)]
    rw [show inR at0 0 ((m.contexts.length : Int) - 1) = false from by simp only [inR, decide_eq_false_iff_not]; omega] at k1
    by_cases hz : 1 ≤ m.contexts.length
    · rw [show (m.contexts.length : Int) - 1 = ((m.contexts.length - 1 : Nat) : Int) by omega] at k1
      repeat' (first | refine W_ ?_ | refine ab hG hst (k1) ?_ | refine c_ (fun hc => ?_) (fun hc => ?_) | refine g_ (fun hg => ?_) (fun hg => ?_))
      exact r1_
    · repeat' (first | refine W_ ?_ | refine ab hG hst (k1) ?_ | refine c_ (fun hc => ?_) (fun hc => ?_) | refine g_ (fun hg => ?_) (fun hg => ?_))
      exact r1_
  rw [show inR at0 0 ((m.contexts.length : Int) - 1) = true from by simp only [inR, decide_eq_true_eq]; omega] at k1
  rw [show (m.contexts.length : Int) - 1 = ((m.contexts.length - 1 : Nat) : Int) by omega] at k1
  obtain ⟨u, rfl⟩ : ∃ u : Nat, at0 = u := ⟨at0.toNat, by omega⟩
  have hu : u < m.contexts.length := by omega
  have hch := x7 hu
  have hru := hxr u hu
  have hpu := hpl u hu
  have hdu := hde u hu
  have hsu := hsd u hu
  by_cases hm0 : m.contexts[u].mark = 0
  case neg =>
    rw [ji fun h => hm0 (hch.1 h).1]
    have hm0' : m.contexts[u].mark ≠ 0 := hm0
    generalize m.contexts[u] = c at hru hm0'
    repeat' (first | refine W_ ?_ | refine ab hG hst (k1) ?_ | refine c_ (fun hc => ?_) (fun hc => ?_) | refine g_ (fun hg => ?_) (fun hg => ?_))
    exact r1_
  have hm0' : ¬ m.contexts[u].mark ≠ 0 := fun h => h hm0
  replace hdu := hdu (hpu hm0) 0
  have hs0 : mW m m.contexts[u] 0 = abd m m.contexts[u] 0 := by unfold mW; rw [if_pos hm0]
  rw [hs0] at hch
  clear hpu hs0
  generalize abd m m.contexts[u] 0 = b at hdu hch
  cases b
  case false =>
    rw [ji fun h => by have := (hch.1 h).2.1; cases this]
    generalize m.contexts[u] = c at hru hm0'
    repeat' (first | refine W_ ?_ | refine ab hG hst (k1) ?_ | refine ab hG hst (hdu) ?_ | refine c_ (fun hc => ?_) (fun hc => ?_) | refine g_ (fun hg => ?_) (fun hg => ?_))
    exact r1_
  have hiff : di m (u : Int) ↔ we m 1 m.contexts[u].sender := ⟨fun h => (hch.1 h).2.2, fun h => hch.2 ⟨hm0, rfl, h⟩⟩
  clear hch hm0
  generalize m.contexts[u] = c at hru hm0' hsu hiff
  repeat' (first | refine W_ ?_ | refine ab hG hst (k1) ?_ | refine ab hG hst (hdu) ?_ | refine c_ (fun hc => ?_) (fun hc => ?_) | refine g_ (fun hg => ?_) (fun hg => ?_))
  apply aj (X := Int) [0] (fun k => [(6, .int .i64 k)]) (fun _ => []) (fun k => (-1 ≤ k ∧ k < m.contexts.length) ∧ (di m (u : Int) ↔ we m 1 k)) (fun k => (k + 1).toNat) c.sender ⟨by omega, hiff⟩
  exact kp_; exact nw_
  · exact .refl _
  clear hiff hdu k1 hru hm0' hsu
  rintro k ⟨hk, hiff⟩
  try dsimp only
  by_cases hneg : k < 0
  · rw [qG (hiff.2 (.out _ _ hneg))]
    repeat' (first | refine W_ ?_ | refine c_ (fun hc => ?_) (fun hc => ?_) | refine g_ (fun hg => ?_) (fun hg => ?_))
    exact r1_
  obtain ⟨n, rfl⟩ : ∃ n : Nat, k = n := ⟨k.toNat, by omega⟩
  have hn : n < m.contexts.length := by omega
  have hrn := hxr n hn
  have hst2 := hiff.trans (lR hn)
  have hsn := hsd n hn
  have hpn := hpl n hn
  have hdn := hde n hn
  have hot := hon m.contexts[n].sender m.contexts[n].other (by omega)
  clear hxr hpl hde hon hdep hsd
  have hF : mW m m.contexts[n] 1 = false → iW m (u : Int) = false := fun h => ji fun hc => by have := (hst2.1 hc).1; rw [h] at this; cases this
  have hT : mW m m.contexts[n] 1 = true → (di m (u : Int) ↔ we m 1 m.contexts[n].sender) := fun h => ⟨fun hc => (hst2.1 hc).2, fun hw => hst2.2 ⟨h, hw⟩⟩
  clear hst2
  unfold mW at hF hT
  by_cases hm0 : m.contexts[n].mark = 0
  · replace hdn := hdn (hpn hm0) 1
    rw [if_pos hm0] at hF hT
    generalize abd m m.contexts[n] 1 = b at hdn hF hT
    clear hpn hot
    have hm3 : ¬ m.contexts[n].mark = 3 := by omega
    have hm5 : ¬ m.contexts[n].mark = 5 := by omega
    generalize m.contexts[n] = c at hrn hm0 hm3 hm5 hsn hT
    cases b
    · rw [hF rfl]
      repeat' (first | refine W_ ?_ | (refine ai ?_; intro ss bb) | refine ad ?_ | refine ab hG hst (hdn) ?_ | refine c_ (fun hc => ?_) (fun hc => ?_) | refine g_ (fun hg => ?_) (fun hg => ?_))
      exact r1_
    · repeat' (first | refine W_ ?_ | (refine ai ?_; intro ss bb) | refine ad ?_ | refine ab hG hst (hdn) ?_ | refine c_ (fun hc => ?_) (fun hc => ?_) | refine g_ (fun hg => ?_) (fun hg => ?_))
      exact ah c.sender ⟨by omega, hT rfl⟩ (by omega) (.of _ nw_ od_ pk_)
  rw [if_neg hm0] at hF hT
  clear hdn hpn
  by_cases hm35 : m.contexts[n].mark = 3 ∨ m.contexts[n].mark = 5
  · rw [if_pos hm35] at hF hT
    generalize onB m m.contexts[n].other m.contexts[n].sender = b at hot hF hT
    generalize m.contexts[n] = c at hrn hm0 hm35 hsn hT hot
    rcases hm35 with hm3 | hm5
    · have hm5 : ¬ c.mark = 5 := by omega
      cases b
      · rw [hF rfl]
        repeat' (first | refine W_ ?_ | (refine ai ?_; intro ss bb) | refine ad ?_ | refine ab hG hst (hot) ?_ | refine c_ (fun hc => ?_) (fun hc => ?_) | refine g_ (fun hg => ?_) (fun hg => ?_))
        exact r1_
      · repeat' (first | refine W_ ?_ | (refine ai ?_; intro ss bb) | refine ad ?_ | refine ab hG hst (hot) ?_ | refine c_ (fun hc => ?_) (fun hc => ?_) | refine g_ (fun hg => ?_) (fun hg => ?_))
        exact ah c.sender ⟨by omega, hT rfl⟩ (by omega) (.of _ nw_ od_ pk_)
    · have hm3 : ¬ c.mark = 3 := by omega
      cases b
      · rw [hF rfl]
        repeat' (first | refine W_ ?_ | (refine ai ?_; intro ss bb) | refine ad ?_ | refine ab hG hst (hot) ?_ | refine c_ (fun hc => ?_) (fun hc => ?_) | refine g_ (fun hg => ?_) (fun hg => ?_))
        exact r1_
      · repeat' (first | refine W_ ?_ | (refine ai ?_; intro ss bb) | refine ad ?_ | refine ab hG hst (hot) ?_ | refine c_ (fun hc => ?_) (fun hc => ?_) | refine g_ (fun hg => ?_) (fun hg => ?_))
        exact ah c.sender ⟨by omega, hT rfl⟩ (by omega) (.of _ nw_ od_ pk_)
  · rw [if_neg hm35] at hT
    have hm3 : ¬ m.contexts[n].mark = 3 := fun h => hm35 (.inl h)
    have hm5 : ¬ m.contexts[n].mark = 5 := fun h => hm35 (.inr h)
    generalize m.contexts[n] = c at hrn hm0 hm3 hm5 hsn hT
    repeat' (first | refine W_ ?_ | (refine ai ?_; intro ss bb) | refine ad ?_ | refine c_ (fun hc => ?_) (fun hc => ?_) | refine g_ (fun hg => ?_) (fun hg => ?_))
    exact ah c.sender ⟨by omega, hT rfl⟩ (by omega) (.of _ nw_ od_ pk_)
set_option maxRecDepth 20000
set_option maxHeartbeats 2000000
open Classical in
noncomputable def wR (m : ak) (n0 n1 n2 : Int) : Bool := decide (xd m n0 n1 n2)
open Classical in
theorem qA {m : ak} {n0 n1 n2 : Int} (h : ¬ xd m n0 n1 n2) : wR m n0 n1 n2 = false := decide_eq_false h
open Classical in
theorem sX {m : ak} {n0 n1 n2 : Int} (h : xd m n0 n1 n2) : wR m n0 n1 n2 = true := decide_eq_true h
theorem lD {m : ak} {n0 n2 : Int} : xd m n0 (-1) n2 ↔ n0 = -1 ∧ n2 = 0 := by
  unfold xd
  rw [xm (by omega)]
  constructor
  · rintro (⟨h1, _, h2⟩ | ⟨_, c, hc, _⟩)
    · exact ⟨h1, h2⟩
    · cases hc
  · rintro ⟨h1, h2⟩; exact .inl ⟨h1, rfl, h2⟩
theorem uB {m : ak} {n0 n2 : Int} {u : Nat} (hu : u < m.contexts.length) : xd m n0 (u : Int) n2 ↔ n2 = 1 ∧ m.contexts[u].mark = 3 ∧ 0 ≤ n0 ∧ OnW m n0 m.contexts[u].sender := by
  unfold xd
  rw [jn hu]
  constructor
  · rintro (⟨_, h, _⟩ | ⟨h2, c, hc, h3⟩)
    · omega
    · cases hc; exact ⟨h2, h3⟩
  · rintro ⟨h2, h3⟩; exact .inr ⟨h2, _, rfl, h3⟩
theorem vF {m : ak} {n0 n1 n2 : Int} (h : n1 ≠ -1) (hu : ¬ (0 ≤ n1 ∧ n1 < m.contexts.length)) : ¬ xd m n0 n1 n2 := by
  rintro (⟨_, h1, _⟩ | ⟨_, c, hc, _⟩)
  · exact h h1
  · obtain ⟨h0, h1, _⟩ := lE hc; omega
theorem vh {m : ak} {n0 n1 n2 : Int} (h : n1 ≠ -1) (h2 : n2 ≠ 1) : ¬ xd m n0 n1 n2 := by
  rintro (⟨_, h1, _⟩ | ⟨h1, _⟩)
  · exact h h1
  · exact h2 h1
open Classical in
theorem xI {m : ak} {a k : Int} : onB m a k = true ↔ OnW m a k := decide_eq_true_iff
theorem jw {l : List Int} {i : Nat} (h : i < l.length) : (aO l)[i]? = some [.int .i64 l[i]] := aH h
theorem mT {G : World → Prop} (l1 l2 : Nat) (a b : List Int) (_hn : a.length ≤ 1048576) (hm : b.length ≤ 1048576) : Ct Tryz.prog G 280 [.sl l1 1 (aO a), .sl l2 1 (aO b)] (fun _ => .bool (decide (a = b))) := by
  refine ao Tryz.func280 rfl Tryz.ntmps280 rfl rfl fun w0 _ hG => ?_
  have hla := aq a
  have hlb := aq b
  by_cases hl : a.length = b.length
  · repeat' (first | refine W_ ?_ | refine c_ (fun hc => ?_) (fun hc => ?_) | refine g_ (fun hg => ?_) (fun hg => ?_))
    apply aj (X := Nat) [0, 1, 12] (fun i => [(13, .int .i64 (i : Int))]) (fun _ => []) (fun i => i ≤ a.length ∧ a.take i = b.take i) (fun i => a.length - i) 0 ⟨Nat.zero_le _, by simp⟩
    exact kp_; exact nw_
    · exact .refl _
    rintro i ⟨hi, hs⟩
    try dsimp only
    by_cases hlt : i < a.length
    · have hr1 := jw hlt
      have hlt2 : i < b.length := by omega
      have hr2 := jw hlt2
      have hta : a[i] = b[i] → a.take (i + 1) = b.take (i + 1) := fun e => by rw [List.take_add_one, List.take_add_one, hs, List.getElem?_eq_getElem hlt, List.getElem?_eq_getElem hlt2, e]
      have hne : a[i] ≠ b[i] → decide (a = b) = false := fun h => decide_eq_false fun e => h (by subst e; rfl)
      generalize a[i] = x at hr1 hta hne
      generalize b[i] = y at hr2 hta hne
      by_cases hx : x = y
      · have hx' : ¬ x ≠ y := fun h => h hx
        repeat' (first | refine V_ ?_ | refine c_ (fun hc => ?_) (fun hc => ?_) | refine g_ (fun hg => ?_) (fun hg => ?_))
        exact ah (i + 1) ⟨by omega, hta hx⟩ (by omega) (.of _ nw_ od_ pk_)
      · have hx' : x ≠ y := hx
        rw [hne hx]
        repeat' (first | refine V_ ?_ | refine c_ (fun hc => ?_) (fun hc => ?_) | refine g_ (fun hg => ?_) (fun hg => ?_))
        exact r1_
    · rw [List.take_of_length_le (by omega), List.take_of_length_le (by omega)] at hs
      rw [decide_eq_true hs]
      repeat' (first | refine W_ ?_ | refine c_ (fun hc => ?_) (fun hc => ?_) | refine g_ (fun hg => ?_) (fun hg => ?_))
      exact r1_
  · rw [decide_eq_false (p := a = b) fun e => hl (by rw [e])]
    repeat' (first | refine W_ ?_ | refine c_ (fun hc => ?_) (fun hc => ?_) | refine g_ (fun hg => ?_) (fun hg => ?_))
    exact r1_
theorem nS {G : World → Prop} (hst : az G) (l1 l2 : Nat) (a b : List Int) (hn : a.length ≤ 1048576) (hm : b.length ≤ 1048576) : Ct Tryz.prog G 245 [.sl l1 1 (aO a), .sl l2 1 (aO b)] (fun _ => .bool (decide (a = b))) := by
  refine ao Tryz.func245 rfl Tryz.ntmps245 rfl rfl fun w0 _ hG => ?_
  repeat' (first | refine W_ ?_ | refine ab hG hst (mT l1 l2 a b hn hm) ?_ | refine c_ (fun hc => ?_) (fun hc => ?_) | refine g_ (fun hg => ?_) (fun hg => ?_))
  exact r1_
set_option maxHeartbeats 4000000 in
theorem nJ (lo l2 : Nat) (m : ak) (hsm : m.small 1048576) (hsd : fz m) (n0 n1 n2 : Int) : Ct Tryz.prog GL 184 [.agg (m.tw lo), .sl l2 1 [[.int .i64 n0], [.int .i64 n1], [.int .i64 n2]]] (fun _ => .bool (wR m n0 n1 n2)) := by
  refine ao Tryz.func184 rfl Tryz.ntmps184 rfl rfl fun w0 _ hG => ?_
  have hst := df
  have hlx := am.len lo m.contexts
  have hxl := hsm.2.2.2.1.1
  have hon := fun (k0 a : Int) h => vG (G := GL) w0.heap.size lo m hxl hsd k0 a h
  have hxr := fun (i : Nat) (h : i < m.contexts.length) => cN (lo := lo) (l := m.contexts) h
  have hsn := nS hst l2 w0.heap.size [n0, n1, n2] [-1, -1, 0] (by simp) (by simp)
  simp only [aO, List.map_cons, List.map_nil] at hsn
  unfold ak.tw at hon ⊢
  by_cases h1 : n1 = -1
  · subst h1
    by_cases h0 : n0 = -1 ∧ n2 = 0
    · obtain ⟨rfl, rfl⟩ := h0
      rw [sX (lD.2 ⟨rfl, rfl⟩)]
      rw [decide_eq_true rfl] at hsn
      repeat' (first | refine W_ ?_ | refine aE ?_ | refine dA ?_ | refine ab hG hst (hsn) ?_ | refine c_ (fun hc => ?_) (fun hc => ?_) | refine g_ (fun hg => ?_) (fun hg => ?_))
      exact r1_
    rw [qA fun h => h0 (lD.1 h)]
    rw [decide_eq_false fun e => h0 (by simp at e; exact e)] at hsn
    have k1 := aK (G := GL) (-1) 0 ((m.contexts.length : Int) - 1)
    rw [show inR (-1) 0 ((m.contexts.length : Int) - 1) = false from by simp only [inR, decide_eq_false_iff_not]; omega] at k1
    have k2 := aK (G := GL) (-1) 0 ((m.contexts.length - 1 : Nat) : Int)
    rw [show inR (-1) 0 ((m.contexts.length - 1 : Nat) : Int) = false from by simp only [inR, decide_eq_false_iff_not]; omega] at k2
    by_cases hz : 1 ≤ m.contexts.length
    all_goals
      repeat' (first | refine V_ ?_ | refine aE ?_ | refine dA ?_ | refine ab hG hst (hsn) ?_ | refine ac hG hst (k1) ?_ | refine ac hG hst (k2) ?_ | refine c_ (fun hc => ?_) (fun hc => ?_) | refine g_ (fun hg => ?_) (fun hg => ?_))
      all_goals
        exact r1_
  rw [decide_eq_false fun e => h1 (by simp at e; exact e.2.1)] at hsn
  by_cases h2 : n2 = 1
  case neg =>
    rw [qA (vh h1 h2)]
    repeat' (first | refine V_ ?_ | refine aE ?_ | refine dA ?_ | refine ab hG hst (hsn) ?_ | refine c_ (fun hc => ?_) (fun hc => ?_) | refine g_ (fun hg => ?_) (fun hg => ?_))
    exact r1_
  have k1 := aK (G := GL) n1 0 ((m.contexts.length : Int) - 1)
  by_cases hin : 0 ≤ n1 ∧ n1 < m.contexts.length
  case neg =>
    rw [qA (vF h1 hin)]
    rw [show inR n1 0 ((m.contexts.length : Int) - 1) = false from by simp only [inR, decide_eq_false_iff_not]; omega] at k1
    by_cases hz : 1 ≤ m.contexts.length
    · rw [show (m.contexts.length : Int) - 1 = ((m.contexts.length - 1 : Nat) : Int) by omega] at k1
      repeat' (first | refine V_ ?_ | refine aE ?_ | refine dA ?_ | refine ab hG hst (hsn) ?_ | refine ac hG hst (k1) ?_ | refine c_ (fun hc => ?_) (fun hc => ?_) | refine g_ (fun hg => ?_) (fun hg => ?_))
      exact r1_
    · repeat' (first | refine V_ ?_ | refine aE ?_ | refine dA ?_ | refine ab hG hst (hsn) ?_ | refine ac hG hst (k1) ?_ | refine c_ (fun hc => ?_) (fun hc => ?_) | refine g_ (fun hg => ?_) (fun hg => ?_))
      exact r1_
  rw [show inR n1 0 ((m.contexts.length : Int) - 1) = true from by simp only [inR, decide_eq_true_eq]; omega] at k1
  rw [show (m.contexts.length : Int) - 1 = ((m.contexts.length - 1 : Nat) : Int) by omega] at k1
  obtain ⟨u, rfl⟩ : ∃ u : Nat, n1 = u := ⟨n1.toNat, by omega⟩
  have hu : u < m.contexts.length := by omega
  have hru := hxr u hu
  have hiff := uB (m := m) (n0 := n0) (n2 := n2) hu
  have hsu := hsd u hu
  have hot := hon m.contexts[u].sender n0 (by omega)
  have hob : onB m n0 m.contexts[u].sender = true ↔ OnW m n0 m.contexts[u].sender := xI
  generalize onB m n0 m.contexts[u].sender = b at hot hob
  rw [← hob] at hiff
  generalize m.contexts[u] = c at hru hiff hot
  have hF := qA (m := m) (n0 := n0) (n1 := (u : Int)) (n2 := n2)
  have hT := sX (m := m) (n0 := n0) (n1 := (u : Int)) (n2 := n2)
  rw [hiff] at hF hT
  generalize wR m n0 (u : Int) n2 = V at hF hT ⊢
  by_cases h3 : c.mark = 3
  case neg =>
    rw [hF fun h => h3 h.2.1]
    repeat' (first | refine V_ ?_ | refine aE ?_ | refine dA ?_ | refine ab hG hst (hsn) ?_ | refine ac hG hst (k1) ?_ | refine c_ (fun hc => ?_) (fun hc => ?_) | refine g_ (fun hg => ?_) (fun hg => ?_))
    exact r1_
  by_cases h0 : 0 ≤ n0
  case neg =>
    rw [hF fun h => h0 h.2.2.1]
    repeat' (first | refine V_ ?_ | refine aE ?_ | refine dA ?_ | refine ab hG hst (hsn) ?_ | refine ac hG hst (k1) ?_ | refine c_ (fun hc => ?_) (fun hc => ?_) | refine g_ (fun hg => ?_) (fun hg => ?_))
    exact r1_
  cases b
  · rw [hF fun h => by have := h.2.2.2; cases this]
    repeat' (first | refine V_ ?_ | refine aE ?_ | refine dA ?_ | refine ab hG hst (hsn) ?_ | refine ac hG hst (k1) ?_ | refine ac hG hst (hot) ?_ | refine c_ (fun hc => ?_) (fun hc => ?_) | refine g_ (fun hg => ?_) (fun hg => ?_))
    exact r1_
  · rw [hT ⟨h2, h3, h0, rfl⟩]
    repeat' (first | refine V_ ?_ | refine aE ?_ | refine dA ?_ | refine ab hG hst (hsn) ?_ | refine ac hG hst (k1) ?_ | refine ac hG hst (hot) ?_ | refine c_ (fun hc => ?_) (fun hc => ?_) | refine g_ (fun hg => ?_) (fun hg => ?_))
    exact r1_
theorem qH {lo : Nat} {l : List au} {i : Nat} (h : i < l.length) : (l.map (au.tw lo))[i]? = some [.int .i64 l[i].kind, .int .i64 l[i].class_, .sl lo 3 (l[i].fields.map (ae.tw lo)), .sl lo 1 (aO l[i].numbers)] := aH h
theorem act {m : ak} {oc : Int} {fs : List ae} {n0 n1 n2 : Int} : vi m ⟨1, oc, fs, [n0, n1, n2]⟩ ↔ xd m n0 n1 n2 := by
  unfold vi
  constructor
  · intro h; exact h rfl n0 n1 n2 rfl
  · intro h _ a b c e
    simp only [List.cons.injEq] at e
    obtain ⟨rfl, rfl, rfl, _⟩ := e
    exact h
open Classical in
noncomputable def ul (m : ak) : Bool := decide (∀ o ∈ m.store.objects, vi m o)
open Classical in
theorem acD {m : ak} {o : au} (ho : o ∈ m.store.objects) (h : ¬ vi m o) : ul m = false := decide_eq_false fun k => h (k o ho)
open Classical in
theorem acG {m : ak} (h : ∀ o ∈ m.store.objects, vi m o) : ul m = true := decide_eq_true h
theorem acp {l : List Int} (h : l.length = 3) : ∃ a b c, l = [a, b, c] := by
  match l, h with
  | [a, b, c], _ => exact ⟨a, b, c, rfl⟩
end Go.Proofs.YtiihihgjiklnoaaGreatDoor
