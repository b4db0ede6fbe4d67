/- Part 14 of the proof: the texts ImN, ImP, ImQ, ImP1, ImH, ImI. -/
import Derived.Test.YthpdkhejeookhaaGreatDoorPart13
import Derived.Test.YthpdkhejeookhaaGreatDoorPart12
import Derived.Test.YthpdkhejeookhaaGreatDoorPart11
/- IsImage: the numbers of exceptions, both sides. -/
namespace Go.Proofs.YthpdkhejeookhaaGreatDoor
set_option maxRecDepth 20000
open Go Go.RowKit
open Classical in
noncomputable def rZ (m : aM) (n0 n1 n2 : Int) : Bool := decide (tf m n0 n1 n2)
open Classical in
theorem nr {m : aM} {n0 n1 n2 : Int} (h : ¬ tf m n0 n1 n2) : rZ m n0 n1 n2 = false := decide_eq_false h
open Classical in
theorem qj {m : aM} {n0 n1 n2 : Int} (h : tf m n0 n1 n2) : rZ m n0 n1 n2 = true := decide_eq_true h
theorem jT {m : aM} {n0 n2 : Int} : tf m n0 (-1) n2 ↔ n0 = -1 ∧ n2 = 0 := by
  unfold tf
  rw [xw (by omega)]
  constructor
  · rintro (⟨h1, _, h2⟩ | ⟨_, c, hc, _⟩)
    · exact ⟨h1, h2⟩
    · cases hc
  · rintro ⟨h1, h2⟩; exact .inl ⟨h1, rfl, h2⟩
theorem qX {m : aM} {n0 n2 : Int} {u : Nat} (hu : u < m.contexts.length) : tf m n0 (u : Int) n2 ↔ n2 = 1 ∧ m.contexts[u].mark = 3 ∧ 0 ≤ n0 ∧ OnW m n0 m.contexts[u].sender := by
  unfold tf
  rw [iY hu]
  constructor
  · rintro (⟨_, h, _⟩ | ⟨h2, c, hc, h3⟩)
    · omega
    · cases hc; exact ⟨h2, h3⟩
  · rintro ⟨h2, h3⟩; exact .inr ⟨h2, _, rfl, h3⟩
theorem q6 {m : aM} {n0 n1 n2 : Int} (h : n1 ≠ -1) (hu : ¬ (0 ≤ n1 ∧ n1 < m.contexts.length)) : ¬ tf m n0 n1 n2 := by
  rintro (⟨_, h1, _⟩ | ⟨_, c, hc, _⟩)
  · exact h h1
  · obtain ⟨h0, h1, _⟩ := mN hc; omega
theorem rF {m : aM} {n0 n1 n2 : Int} (h : n1 ≠ -1) (h2 : n2 ≠ 1) : ¬ tf m n0 n1 n2 := by
  rintro (⟨_, h1, _⟩ | ⟨h1, _⟩)
  · exact h h1
  · exact h2 h1
open Classical in
theorem ug {m : aM} {a k : Int} : onB m a k = true ↔ OnW m a k := decide_eq_true_iff
theorem gJ {l : List Int} {i : Nat} (h : i < l.length) : (bv l)[i]? = some [.int .i64 l[i]] := bg h
theorem jW {G : World → Prop} (l1 l2 : Nat) (a b : List Int) (_hn : a.length ≤ 1048576) (hm : b.length ≤ 1048576) : Ct Tryz.prog G 217 [.sl l1 1 (bv a), .sl l2 1 (bv b)] (fun _ => .bool (decide (a = b))) := by
  refine aJ Tryz.func217 rfl Tryz.ntmps217 rfl rfl fun w0 _ hG => ?_
  have hla := aS a
  have hlb := aS b
  by_cases hl : a.length = b.length
  · repeat' (first | ((with_reducible apply o_y); exact y_; rfl) | with_reducible refine ab rfl ?_ | (with_reducible first | apply ag | apply aa | apply ah | apply ac | apply ai | apply ap) | (refine aj rfl rr_ dd_ ?_))
    apply aK (X := Nat) [0, 1, 12] (fun i => [(13, .int .i64 (i : Int))]) (fun _ => []) (fun i => i ≤ a.length ∧ a.take i = b.take i) (fun i => a.length - i) 0 ⟨Nat.zero_le _, by simp⟩
    exact kp_; (repeat (first | exact bj.envNil | refine bj.envCons we_ ?_))
    · exact .refl _
    rintro i ⟨hi, hs⟩
    try dsimp only
    by_cases hlt : i < a.length
    · have hr1 := gJ hlt
      have hlt2 : i < b.length := by omega
      have hr2 := gJ hlt2
      have hta : a[i] = b[i] → a.take (i + 1) = b.take (i + 1) := fun e => by rw [List.take_add_one, List.take_add_one, hs, List.getElem?_eq_getElem hlt, List.getElem?_eq_getElem hlt2, e]
      have hne : a[i] ≠ b[i] → decide (a = b) = false := fun h => decide_eq_false fun e => h (by subst e; rfl)
      generalize a[i] = x at hr1 hta hne
      generalize b[i] = y at hr2 hta hne
      by_cases hx : x = y
      · have hx' : ¬ x ≠ y := fun h => h hx
        repeat' (first | ((with_reducible apply o_y); exact y_; rfl) | with_reducible refine aF (by kernel_rfl) (by kernel_rfl) ?_ | with_reducible refine aN ?_ | with_reducible refine aE rfl ?_ | ((with_reducible apply d_y); exact y_; rfl) | with_reducible refine ab rfl ?_ | (with_reducible first | apply ag | apply aa | apply ah | apply ac | apply ai | apply ap | apply aB) | (refine ae rfl rr_ dd_ ?_) | (refine aj rfl rr_ dd_ ?_))
        exact aG (i + 1) ⟨by omega, hta hx⟩ (by omega) (.of _ nw_ od_ pk_)
      · have hx' : x ≠ y := hx
        rw [hne hx]
        repeat' (first | ((with_reducible apply o_y); exact y_; rfl) | with_reducible refine aF (by kernel_rfl) (by kernel_rfl) ?_ | with_reducible refine aN ?_ | with_reducible refine aE rfl ?_ | ((with_reducible apply d_y); exact y_; rfl) | with_reducible refine ab rfl ?_ | (with_reducible first | apply ag | apply aa | apply ah | apply ac | apply ai | apply ap | apply au | apply ad | apply ak) | (refine ae rfl rr_ dd_ ?_))
        refine ao x_ rfl (.tmp _ _ rfl) (fun _ => ?_)
        exact Fin.flat rfl
    · rw [List.take_of_length_le (by omega), List.take_of_length_le (by omega)] at hs
      rw [decide_eq_true hs]
      repeat' (first | ((with_reducible apply o_y); exact y_; rfl) | with_reducible refine ab rfl ?_ | (with_reducible first | apply ag | apply aa | apply ah | apply ac | apply aH | apply au | apply ar | apply aq) | (refine aj rfl rr_ dd_ ?_))
      refine ao x_ rfl (.tmp _ _ rfl) (fun _ => ?_)
      exact Fin.flat rfl
  · rw [decide_eq_false (p := a = b) fun e => hl (by rw [e])]
    repeat' (first | ((with_reducible apply o_y); exact y_; rfl) | with_reducible refine ab rfl ?_ | (with_reducible first | apply ag | apply aa | apply ah | apply ac | apply au | apply ad) | (refine ae rfl rr_ dd_ ?_))
    refine ao x_ rfl (.tmp _ _ rfl) (fun _ => ?_)
    exact Fin.flat rfl
theorem kP {G : World → Prop} (hst : aY G) (l1 l2 : Nat) (a b : List Int) (hn : a.length ≤ 1048576) (hm : b.length ≤ 1048576) : Ct Tryz.prog G 176 [.sl l1 1 (bv a), .sl l2 1 (bv b)] (fun _ => .bool (decide (a = b))) := by
  refine aJ Tryz.func176 rfl Tryz.ntmps176 rfl rfl fun w0 _ hG => ?_
  repeat' (first | ((with_reducible apply o_y); exact y_; rfl) | refine aw hG hst (jW l1 l2 a b hn hm) ?_ | with_reducible refine ab rfl ?_ | (with_reducible first | apply ag | apply aa | apply ah | apply ac | apply au))
  refine ao x_ rfl (.tmp _ _ rfl) (fun _ => ?_)
  exact Fin.flat rfl
set_option maxHeartbeats 4000000 in
theorem lm (lo l2 : Nat) (m : aM) (hsm : m.small 1048576) (hsd : iD m) (n0 n1 n2 : Int) : Ct Tryz.prog GL 102 [.agg (m.tw lo), .sl l2 1 [[.int .i64 n0], [.int .i64 n1], [.int .i64 n2]]] (fun _ => .bool (rZ m n0 n1 n2)) := by
  refine aJ Tryz.func102 rfl Tryz.ntmps102 rfl rfl fun w0 _ hG => ?_
  have hst := cZ
  have hlx := aL.len lo m.contexts
  have hxl := hsm.2.2.2.1.1
  have hon := fun (k0 a : Int) h => re (G := GL) w0.heap.size lo m hxl hsd k0 a h
  have hxr := fun (i : Nat) (h : i < m.contexts.length) => cP (lo := lo) (l := m.contexts) h
  have hsn := kP hst l2 w0.heap.size [n0, n1, n2] [-1, -1, 0] (by simp) (by simp)
  simp only [bv, List.map_cons, List.map_nil] at hsn
  unfold aM.tw at hon ⊢
  by_cases h1 : n1 = -1
  · subst h1
    by_cases h0 : n0 = -1 ∧ n2 = 0
    · obtain ⟨rfl, rfl⟩ := h0
      rw [qj (jT.2 ⟨rfl, rfl⟩)]
      rw [decide_eq_true rfl] at hsn
      repeat' (first | ((with_reducible apply o_y); exact y_; rfl) | refine bf ?_ | refine dk ?_ | refine aw hG hst (hsn) ?_ | with_reducible refine ab rfl ?_ | (with_reducible first | apply ag | apply aa | apply ah | apply ac | apply au | apply ad) | refine av rfl rr_ ?_)
      refine ao x_ rfl (.tmp _ _ rfl) (fun _ => ?_)
      exact Fin.flat rfl
    rw [nr fun h => h0 (jT.1 h)]
    rw [decide_eq_false fun e => h0 (by simp at e; exact e)] at hsn
    have k1 := a7 (G := GL) (-1) 0 ((m.contexts.length : Int) - 1)
    rw [show inR (-1) 0 ((m.contexts.length : Int) - 1) = false from by simp only [inR, decide_eq_false_iff_not]; omega] at k1
    have k2 := a7 (G := GL) (-1) 0 ((m.contexts.length - 1 : Nat) : Int)
    rw [show inR (-1) 0 ((m.contexts.length - 1 : Nat) : Int) = false from by simp only [inR, decide_eq_false_iff_not]; omega] at k2
    by_cases hz : 1 ≤ m.contexts.length
    all_goals
      repeat' (first | ((with_reducible apply o_y); exact y_; rfl) | refine bf ?_ | refine dk ?_ | with_reducible refine aF (by kernel_rfl) (by kernel_rfl) ?_ | with_reducible refine aN ?_ | with_reducible refine aE rfl ?_ | refine aX rfl rfl rfl rr_ ?_ | refine aV rfl rfl rfl rr_ rfl rfl rfl ?_ | (refine bJ rfl rfl rfl rr_ (fun hg => ?_) (fun hg => ?_)) | ((with_reducible apply d_y); exact y_; rfl) | refine aw hG hst (hsn) ?_ | refine ay hG hst (k1) ?_ | refine ay hG hst (k2) ?_ | with_reducible refine ab rfl ?_ | (with_reducible first | apply ag | apply aa | apply ah | apply ac | apply ap | apply au) | refine az rfl rr_ ?_)
      all_goals
        refine ao x_ rfl (.tmp _ _ rfl) (fun _ => ?_)
        exact Fin.flat rfl
  rw [decide_eq_false fun e => h1 (by simp at e; exact e.2.1)] at hsn
  by_cases h2 : n2 = 1
  case neg =>
    rw [nr (rF h1 h2)]
    repeat' (first | ((with_reducible apply o_y); exact y_; rfl) | refine bf ?_ | refine dk ?_ | with_reducible refine aF (by kernel_rfl) (by kernel_rfl) ?_ | with_reducible refine aN ?_ | with_reducible refine aE rfl ?_ | refine aV rfl rfl rfl rr_ rfl rfl rfl ?_ | (refine bW rfl rfl rfl rr_ dd_ ?_) | ((with_reducible apply d_y); exact y_; rfl) | refine aw hG hst (hsn) ?_ | with_reducible refine ab rfl ?_ | (with_reducible first | apply ag | apply aa | apply ah | apply ac | apply ap | apply au) | refine az rfl rr_ ?_)
    refine ao x_ rfl (.tmp _ _ rfl) (fun _ => ?_)
    exact Fin.flat rfl
  have k1 := a7 (G := GL) n1 0 ((m.contexts.length : Int) - 1)
  by_cases hin : 0 ≤ n1 ∧ n1 < m.contexts.length
  case neg =>
    rw [nr (q6 h1 hin)]
    rw [show inR n1 0 ((m.contexts.length : Int) - 1) = false from by simp only [inR, decide_eq_false_iff_not]; omega] at k1
    by_cases hz : 1 ≤ m.contexts.length
    · rw [show (m.contexts.length : Int) - 1 = ((m.contexts.length - 1 : Nat) : Int) by omega] at k1
      repeat' (first | ((with_reducible apply o_y); exact y_; rfl) | refine bf ?_ | refine dk ?_ | with_reducible refine aF (by kernel_rfl) (by kernel_rfl) ?_ | with_reducible refine aN ?_ | with_reducible refine aE rfl ?_ | refine aX rfl rfl rfl rr_ ?_ | refine aV rfl rfl rfl rr_ rfl rfl rfl ?_ | (refine cF rfl rfl rfl rr_ dd_ ?_) | ((with_reducible apply d_y); exact y_; rfl) | refine aw hG hst (hsn) ?_ | refine ay hG hst (k1) ?_ | with_reducible refine ab rfl ?_ | (with_reducible first | apply ag | apply aa | apply ah | apply ac | apply ap | apply au) | refine az rfl rr_ ?_)
      refine ao x_ rfl (.tmp _ _ rfl) (fun _ => ?_)
      exact Fin.flat rfl
    · repeat' (first | ((with_reducible apply o_y); exact y_; rfl) | refine bf ?_ | refine dk ?_ | with_reducible refine aF (by kernel_rfl) (by kernel_rfl) ?_ | with_reducible refine aN ?_ | with_reducible refine aE rfl ?_ | refine aX rfl rfl rfl rr_ ?_ | refine aV rfl rfl rfl rr_ rfl rfl rfl ?_ | (refine cF rfl rfl rfl rr_ dd_ ?_) | ((with_reducible apply d_y); exact y_; rfl) | refine aw hG hst (hsn) ?_ | refine ay hG hst (k1) ?_ | with_reducible refine ab rfl ?_ | (with_reducible first | apply ag | apply aa | apply ah | apply ac | apply ap | apply au) | refine az rfl rr_ ?_)
      refine ao x_ rfl (.tmp _ _ rfl) (fun _ => ?_)
      exact Fin.flat rfl
  rw [show inR n1 0 ((m.contexts.length : Int) - 1) = true from by simp only [inR, decide_eq_true_eq]; omega] at k1
  rw [show (m.contexts.length : Int) - 1 = ((m.contexts.length - 1 : Nat) : Int) by omega] at k1
  obtain ⟨u, rfl⟩ : ∃ u : Nat, n1 = u := ⟨n1.toNat, by omega⟩
  have hu : u < m.contexts.length := by omega
  have hru := hxr u hu
  have hiff := qX (m := m) (n0 := n0) (n2 := n2) hu
  have hsu := hsd u hu
  have hot := hon m.contexts[u].sender n0 (by omega)
  have hob : onB m n0 m.contexts[u].sender = true ↔ OnW m n0 m.contexts[u].sender := ug
  generalize onB m n0 m.contexts[u].sender = b at hot hob
  rw [← hob] at hiff
  generalize m.contexts[u] = c at hru hiff hot
  have hF := nr (m := m) (n0 := n0) (n1 := (u : Int)) (n2 := n2)
  have hT := qj (m := m) (n0 := n0) (n1 := (u : Int)) (n2 := n2)
  rw [hiff] at hF hT
  generalize rZ m n0 (u : Int) n2 = V at hF hT ⊢
  by_cases h3 : c.mark = 3
  case neg =>
    rw [hF fun h => h3 h.2.1]
    repeat' (first | ((with_reducible apply o_y); exact y_; rfl) | refine bf ?_ | refine dk ?_ | with_reducible refine aF (by kernel_rfl) (by kernel_rfl) ?_ | with_reducible refine aN ?_ | with_reducible refine aE rfl ?_ | refine aX rfl rfl rfl rr_ ?_ | refine aV rfl rfl rfl rr_ rfl rfl rfl ?_ | (refine cF rfl rfl rfl rr_ dd_ ?_) | (refine bW rfl rfl rfl rr_ dd_ ?_) | ((with_reducible apply d_y); exact y_; rfl) | refine aw hG hst (hsn) ?_ | refine ay hG hst (k1) ?_ | with_reducible refine ab rfl ?_ | (with_reducible first | apply ag | apply aa | apply ah | apply ac | apply ap | apply au) | refine az rfl rr_ ?_)
    refine ao x_ rfl (.tmp _ _ rfl) (fun _ => ?_)
    exact Fin.flat rfl
  by_cases h0 : 0 ≤ n0
  case neg =>
    rw [hF fun h => h0 h.2.2.1]
    repeat' (first | ((with_reducible apply o_y); exact y_; rfl) | refine bf ?_ | refine dk ?_ | with_reducible refine aF (by kernel_rfl) (by kernel_rfl) ?_ | with_reducible refine aN ?_ | with_reducible refine aE rfl ?_ | refine aX rfl rfl rfl rr_ ?_ | refine aV rfl rfl rfl rr_ rfl rfl rfl ?_ | (refine cF rfl rfl rfl rr_ dd_ ?_) | (refine bW rfl rfl rfl rr_ dd_ ?_) | ((with_reducible apply d_y); exact y_; rfl) | refine aw hG hst (hsn) ?_ | refine ay hG hst (k1) ?_ | with_reducible refine ab rfl ?_ | (with_reducible first | apply ag | apply aa | apply ah | apply ac | apply ap | apply au) | refine az rfl rr_ ?_)
    refine ao x_ rfl (.tmp _ _ rfl) (fun _ => ?_)
    exact Fin.flat rfl
  cases b
  · rw [hF fun h => by have := h.2.2.2; cases this]
    repeat' (first | ((with_reducible apply o_y); exact y_; rfl) | refine bf ?_ | refine dk ?_ | with_reducible refine aF (by kernel_rfl) (by kernel_rfl) ?_ | with_reducible refine aN ?_ | with_reducible refine aE rfl ?_ | refine aX rfl rfl rfl rr_ ?_ | (refine cF rfl rfl rfl rr_ dd_ ?_) | ((with_reducible apply d_y); exact y_; rfl) | refine aw hG hst (hsn) ?_ | refine ay hG hst (k1) ?_ | refine ay hG hst (hot) ?_ | with_reducible refine ab rfl ?_ | (with_reducible first | apply ag | apply aa | apply ah | apply ac | apply ap | apply au) | refine az rfl rr_ ?_)
    refine ao x_ rfl (.tmp _ _ rfl) (fun _ => ?_)
    exact Fin.flat rfl
  · rw [hT ⟨h2, h3, h0, rfl⟩]
    repeat' (first | ((with_reducible apply o_y); exact y_; rfl) | refine bf ?_ | refine dk ?_ | with_reducible refine aF (by kernel_rfl) (by kernel_rfl) ?_ | with_reducible refine aN ?_ | with_reducible refine aE rfl ?_ | refine aX rfl rfl rfl rr_ ?_ | (refine cF rfl rfl rfl rr_ dd_ ?_) | ((with_reducible apply d_y); exact y_; rfl) | refine aw hG hst (hsn) ?_ | refine ay hG hst (k1) ?_ | refine ay hG hst (hot) ?_ | with_reducible refine ab rfl ?_ | (with_reducible first | apply ag | apply aa | apply ah | apply ac | apply ap | apply au) | refine az rfl rr_ ?_)
    refine ao x_ rfl (.tmp _ _ rfl) (fun _ => ?_)
    exact Fin.flat rfl
theorem mT {lo : Nat} {l : List aR} {i : Nat} (h : i < l.length) : (l.map (aR.tw lo))[i]? = some [.int .i64 l[i].kind, .int .i64 l[i].class_, .sl lo 3 (l[i].fields.map (aC.tw lo)), .sl lo 1 (bv l[i].numbers)] := bg h
theorem x1 {m : aM} {oc : Int} {fs : List aC} {n0 n1 n2 : Int} : ro m ⟨1, oc, fs, [n0, n1, n2]⟩ ↔ tf m n0 n1 n2 := by
  unfold ro
  constructor
  · intro h; exact h rfl n0 n1 n2 rfl
  · intro h _ a b c e
    simp only [List.cons.injEq] at e
    obtain ⟨rfl, rfl, rfl, _⟩ := e
    exact h
open Classical in
noncomputable def qK (m : aM) : Bool := decide (∀ o ∈ m.store.objects, ro m o)
open Classical in
theorem x7 {m : aM} {o : aR} (ho : o ∈ m.store.objects) (h : ¬ ro m o) : qK m = false := decide_eq_false fun k => h (k o ho)
open Classical in
theorem yG {m : aM} (h : ∀ o ∈ m.store.objects, ro m o) : qK m = true := decide_eq_true h
theorem yl {l : List Int} (h : l.length = 3) : ∃ a b c, l = [a, b, c] := by
  match l, h with
  | [a, b, c], _ => exact ⟨a, b, c, rfl⟩
set_option maxRecDepth 20000
section
variable {G : World → Prop}
theorem pK (lo : Nat) (l : List Int) (v : Int) (hn : l.length ≤ 1000000000) : Ct Tryz.prog G 208 [.sl lo 1 (bv l), .int .i64 v] (fun _ => .bool (decide (v ∈ l))) := by
  refine aJ Tryz.func208 rfl Tryz.ntmps208 rfl rfl fun w0 _ hG => ?_
  have hlen := aS l
  repeat' (first | ((with_reducible apply o_y); exact y_; rfl) | with_reducible refine ab rfl ?_ | (with_reducible first | apply ag | apply aa | apply ah | apply ac | apply ai))
  apply aK (X := Nat) [0, 1] (fun i => [(5, .int .i64 (i : Int))]) (fun _ => []) (fun i => i ≤ l.length ∧ ∀ y ∈ l.take i, y ≠ v) (fun i => l.length - i) 0 ⟨Nat.zero_le _, by simp⟩
  exact kp_; (repeat (first | exact bj.envNil | refine bj.envCons we_ ?_))
  · exact .refl _
  rintro i ⟨hi, hs⟩
  try dsimp only
  by_cases hlt : i < l.length
  · have hrow := gJ hlt
    have hta := bu (p := fun y => y ≠ v) hlt hs
    have hmm := List.getElem_mem hlt
    generalize l[i] = x at hrow hta hmm
    by_cases hx : x = v
    · rw [decide_eq_true (hx ▸ hmm)]
      repeat' (first | ((with_reducible apply o_y); exact y_; rfl) | with_reducible refine ab rfl ?_ | (with_reducible first | apply ag | apply aa | apply ah | apply ac | apply ai | apply ap | apply au | apply ad | apply ak) | (refine ae rfl rr_ dd_ ?_))
      refine ao x_ rfl (.tmp _ _ rfl) (fun _ => ?_)
      exact Fin.flat rfl
    · repeat' (first | ((with_reducible apply o_y); exact y_; rfl) | with_reducible refine ab rfl ?_ | (with_reducible first | apply ag | apply aa | apply ah | apply ac | apply ai | apply ap | apply aB) | (refine ae rfl rr_ dd_ ?_) | (refine aj rfl rr_ dd_ ?_))
      exact aG (i + 1) ⟨by omega, hta hx⟩ (by omega) (.of _ nw_ od_ pk_)
  · rw [List.take_of_length_le (by omega)] at hs
    rw [decide_eq_false fun h => hs v h rfl]
    repeat' (first | ((with_reducible apply o_y); exact y_; rfl) | with_reducible refine ab rfl ?_ | (with_reducible first | apply ag | apply aa | apply ah | apply ac | apply aH | apply au | apply ar | apply aq) | (refine aj rfl rr_ dd_ ?_))
    refine ao x_ rfl (.tmp _ _ rfl) (fun _ => ?_)
    exact Fin.flat rfl
end
def kt (m : aM) (L : List Int) : Prop := (∀ p ∈ L, 0 ≤ p ∧ p < m.processes.length) ∧ L.Nodup
open Classical in
noncomputable def alO (m : aM) : Option (List Int) := if kt m (j8 m ++ m.ready ++ qz m) then some (j8 m ++ m.ready ++ qz m) else none
open Classical in
theorem y9 {m : aM} {L : List Int} (e : L = j8 m ++ m.ready ++ qz m) (h : kt m L) : alO m = some L := by subst e; exact if_pos h
open Classical in
theorem yT {m : aM} {L : List Int} (e : L = j8 m ++ m.ready ++ qz m) (h : ¬ kt m L) : alO m = none := by subst e; exact if_neg h
open Classical in
theorem vU {m : aM} {L : List Int} (h : alO m = some L) : L = j8 m ++ m.ready ++ qz m ∧ kt m L := by
  unfold alO at h
  split at h
  · rename_i hp
    cases h
    exact ⟨rfl, hp⟩
  · cases h
open Classical in
theorem vt {m : aM} (h : alO m = none) : ¬ kt m (j8 m ++ m.ready ++ qz m) := by
  unfold alO at h
  split at h
  · cases h
  · assumption
noncomputable def tJ (m : aM) (K : Nat) : TV := .tup [.sl K 1 (bv ((alO m).getD [])), .bool (alO m).isSome]
theorem lE {L : List Int} {i : Nat} (h : i < L.length) (hn : (L.take i).Nodup) (hx : L[i] ∉ L.take i) : (L.take (i + 1)).Nodup := by
  rw [gW h, List.nodup_append]
  refine ⟨hn, by simp, fun a ha b hb e => ?_⟩
  rw [List.mem_singleton] at hb
  subst hb
  exact hx (e ▸ ha)
theorem oL {L : List Int} {i : Nat} (h : i < L.length) (hx : L[i] ∈ L.take i) : ¬ L.Nodup := fun hn => by
  rw [← List.take_append_drop i L, List.nodup_append] at hn
  exact hn.2.2 _ hx L[i] (by rw [List.drop_eq_getElem_cons h]; exact List.mem_cons_self) rfl
theorem mH (a b : List Int) : bv a ++ bv b = bv (a ++ b) := by simp [bv]
theorem ox (a : List Int) (n : Nat) : (bv a).drop n = bv (a.drop n) := by simp [bv]
theorem oN (a : List Int) (n : Nat) : (bv a).take n = bv (a.take n) := by simp [bv]
theorem j2 {l : List aR} {i : Nat} (h : i < l.length) : (l.take (i + 1)).flatMap pN = (l.take i).flatMap pN ++ pN l[i] := by
  rw [gW h, List.flatMap_append]; simp
theorem pI {l : List aR} {i : Nat} (hi : i ≤ l.length) (hs : ∀ o ∈ l, o.numbers.length ≤ 1048576) : ((l.take i).flatMap pN).length ≤ i * 1048576 := by
  induction i with
  | zero => simp
  | succ i ih =>
    have hlt : i < l.length := by omega
    rw [j2 hlt, List.length_append]
    have h1 := ih (by omega)
    have h2 : (pN l[i]).length ≤ 1048576 := by
      have := hs _ (List.getElem_mem hlt)
      unfold pN
      split
      · rw [List.length_drop]; omega
      · simp
    omega
theorem qM (m : aM) : (j8 m).length ≤ 1 := by unfold j8; split <;> simp
set_option maxHeartbeats 4000000 in
theorem p0 (f lo : Nat) (m : aM) (hsm : m.small 1048576) (h800 : m.store.objects.length ≤ 800) (hsem : ∀ o ∈ m.store.objects, o.kind = 3 → 1 ≤ o.numbers.length) (hp1 : 1 ≤ m.processes.length) : Ct Tryz.prog GL 163 [.cp f (m.tw lo)] (tJ m) := by
  refine aJ Tryz.func163 rfl Tryz.ntmps163 rfl rfl fun w0 _ hG => ?_
  have hst := cZ
  have hlo := aR.len lo m.store.objects
  have hlp := aU.len lo m.processes
  have hpl := hsm.2.2.2.2.1.1
  have hrl := hsm.2.2.2.2.2.1
  have hrl2 := aS m.ready
  have hnum : ∀ o ∈ m.store.objects, o.numbers.length ≤ 1048576 := fun o h => (hsm.2.1.2.1.2 o h).2
  have hsl := fun (i : Nat) (h : i ≤ m.store.objects.length) => pI h hnum
  have hnl := qM m
  have hnow : j8 m = if m.status = 0 then [m.now] else [] := rfl
  unfold tJ
  unfold aM.tw
  repeat' (first | ((with_reducible apply o_y); exact y_; rfl) | ((with_reducible apply vC (n := 0)); rfl; rfl; kernel_rfl; kernel_rfl; rfl; kernel_rfl; rfl; rfl; rfl; rfl; intro ss bb) | with_reducible refine bx (id := 2) ?_ | with_reducible refine ab rfl ?_ | (with_reducible first | apply ag | apply aa | apply ah | apply ac))
  refine ⟨?_⟩
  generalize ss = s4; generalize bb = b4
  apply en (X := Nat) [0] (fun b => [(4, .ms s4 b 0 (j8 m).length)]) (fun b => [(s4, b, .row 1 (bv (j8 m)))]) (fun _ => True)
  case hk => (repeat (first | exact gn.nil | (apply gn.cons; rfl)))
  · rw [hnow]
    by_cases hs : m.status = 0
    · rw [if_pos hs]
      repeat' (first | ((with_reducible apply o_y); exact y_; rfl) | refine dk ?_ | ((with_reducible apply nD); rfl; rfl; rfl; kernel_rfl; (repeat (with_reducible exact mh)); exact (rfl : _ = 1); omega; (intro bq; (repeat (with_reducible exact Upd.head _))); intro bb) | with_reducible refine ab rfl ?_ | (with_reducible first | apply ag | apply aa | apply ah | apply ac) | (refine ae rfl rr_ dd_ ?_))
      exact dh _ trivial (.of _ nw_ od_ pk_)
    · rw [if_neg hs]
      repeat' (first | ((with_reducible apply o_y); exact y_; rfl) | with_reducible refine ab rfl ?_ | (with_reducible first | apply ag | apply aa | apply ah | apply ac | apply ap) | (refine aj rfl rr_ dd_ ?_))
      exact dh b4 trivial (.of _ nw_ od_ pk_)
  clear hnow
  intro b5 _
  generalize hN0 : j8 m = N0 at hnl ⊢
  have hap1 := mH N0 m.ready
  repeat' (first | ((with_reducible apply o_y); exact y_; rfl) | ((with_reducible apply fg); rfl; rfl; rfl; kernel_rfl; (repeat (with_reducible exact mh)); exact aS _; exact hrl2; omega; exact hap1; (intro bq; (repeat (with_reducible exact Upd.head _))); intro bb) | with_reducible refine ab rfl ?_ | (with_reducible first | apply ag | apply aa | apply ah | apply ac | apply ai))
  rw [← List.length_append]
  apply aK (X := Nat × Nat × List Int) [0] (fun x => [(5, .int .i64 (x.1 : Int)), (4, .ms s4 x.2.1 0 x.2.2.length)]) (fun x => [(s4, x.2.1, .row 1 (bv x.2.2))]) (fun x => x.1 ≤ m.store.objects.length ∧ x.2.2 = N0 ++ m.ready ++ (m.store.objects.take x.1).flatMap pN) (fun x => m.store.objects.length - x.1) (0, bb, N0 ++ m.ready) ⟨Nat.zero_le _, by simp⟩
  exact kp_; (repeat (first | exact bj.envNil | refine bj.envCons we_ ?_))
  · exact .refl _
  rintro ⟨i, b6, A⟩ ⟨hi, hA⟩
  dsimp only at hi hA ⊢
  have hAl : A.length ≤ 1 + 1048576 + i * 1048576 := by
    rw [hA, List.length_append, List.length_append]
    have := hsl i hi
    omega
  by_cases hlt : i < m.store.objects.length
  · have hrow := mT (lo := lo) hlt
    have hsn := j2 hlt
    have hol := hnum _ (List.getElem_mem hlt)
    have hse := hsem _ (List.getElem_mem hlt)
    have hA2 : A ++ pN m.store.objects[i] = N0 ++ m.ready ++ (m.store.objects.take (i + 1)).flatMap pN := by rw [hsn, hA, List.append_assoc (N0 ++ m.ready)]
    clear hsn hsem hsl hnum
    generalize m.store.objects[i] = o at hrow hol hse hA2
    obtain ⟨ok, oc, fs, ns⟩ := o
    dsimp only at hrow hol hse
    unfold pN at hA2
    dsimp only at hA2
    have hnl2 := aS ns
    by_cases hk : ok = 3
    · rw [if_pos hk] at hA2
      have h1 := hse hk
      have hdr := ox ns 1
      have hdl := aS (ns.drop 1)
      have hdl2 : (ns.drop 1).length ≤ 1048576 := by rw [List.length_drop]; omega
      have hap := mH A (ns.drop 1)
      repeat' (first | ((with_reducible apply o_y); exact y_; rfl) | (refine aI ?_; intro ss bb) | refine aA ?_ | refine yg ?_ | ((with_reducible apply fg); rfl; rfl; rfl; kernel_rfl; (repeat (first | with_reducible exact mh | with_reducible refine mt ?_)); exact aS _; exact hdl; omega; exact hap; (intro bq; (repeat (first | with_reducible exact Upd.head _ | with_reducible apply Upd.tail))); intro bb) | with_reducible refine ab rfl ?_ | (with_reducible first | apply ag | apply aa | apply ah | apply ac | apply ai | apply ap | apply aB) | (refine ae rfl rr_ dd_ ?_))
      rw [← List.length_append]
      exact aG (i + 1, _, A ++ ns.drop 1) ⟨by dsimp only; omega, hA2⟩ (by dsimp only; omega) (.of _ nw_ od_ pk_)
    · rw [if_neg hk, List.append_nil] at hA2
      repeat' (first | ((with_reducible apply o_y); exact y_; rfl) | (refine aI ?_; intro ss bb) | refine aA ?_ | with_reducible refine ab rfl ?_ | (with_reducible first | apply ag | apply aa | apply ah | apply ac | apply ai | apply ap | apply aB) | (refine ae rfl rr_ dd_ ?_) | (refine aj rfl rr_ dd_ ?_))
      exact aG (i + 1, b6, A) ⟨by dsimp only; omega, hA2⟩ (by dsimp only; omega) (.of _ nw_ od_ pk_)
  obtain rfl : i = m.store.objects.length := by omega
  rw [List.take_of_length_le (Nat.le_refl _)] at hA
  have hAe : A = j8 m ++ m.ready ++ qz m := by rw [hA, hN0]; rfl
  have hT := y9 hAe
  have hF := yT hAe
  generalize alO m = r at hT hF ⊢
  clear hA hAe hN0 hap1 hsl hsem hnum
  replace hAl : A.length ≤ 900000000 := by omega
  repeat' (first | ((with_reducible apply o_y); exact y_; rfl) | with_reducible refine bx (id := 11) ?_ | with_reducible refine ab rfl ?_ | (with_reducible first | apply ag | apply aa | apply ah | apply ac | apply aH | apply ar | apply aq) | (refine aj rfl rr_ dd_ ?_))
  refine ⟨?_⟩
  refine j5 (t := 4) rfl (aS _) (.head _) ?_
  have hll := aS A
  repeat' (first | ((with_reducible apply o_y); exact y_; rfl) | with_reducible refine ab rfl ?_ | (with_reducible first | apply ag | apply aa | apply ah | apply ac | apply ai))
  apply aK (X := Nat) [0, 4] (fun i => [(7, .int .i64 (i : Int))]) (fun _ => []) (fun i => i ≤ A.length ∧ (∀ p ∈ A.take i, 0 ≤ p ∧ p < m.processes.length) ∧ (A.take i).Nodup) (fun i => A.length - i) 0 ⟨Nat.zero_le _, by simp, by simp⟩
  exact kp_; (repeat (first | exact bj.envNil | refine bj.envCons we_ ?_))
  · exact .refl _
  rintro i ⟨hi, hin, hnd⟩
  try dsimp only
  by_cases hlt : i < A.length
  case neg =>
    obtain rfl : i = A.length := by omega
    rw [List.take_of_length_le (Nat.le_refl _)] at hin hnd
    rw [hT ⟨hin, hnd⟩]
    repeat' (first | ((with_reducible apply o_y); exact y_; rfl) | with_reducible refine ab rfl ?_ | (with_reducible first | apply ag | apply aa | apply ah | apply ac | apply aH | apply au | apply ar | apply aq) | (refine aj rfl rr_ dd_ ?_))
    refine dq x_ rfl (.tmp _ _ rfl) (.tmp _ _ rfl) (fun _ => ?_) (fun _ => ?_)
    · exact Fin.slFlat (Nat.le_refl _) (hU _)
    · exact Fin.flat rfl
  have hrow := gJ hlt
  have hta := bu (p := fun p : Int => 0 ≤ p ∧ p < m.processes.length) hlt hin
  have hns := lE hlt hnd
  have hb1 : ¬ (0 ≤ A[i] ∧ A[i] < m.processes.length) → r = none := fun h => hF fun k => h (k.1 _ (List.getElem_mem hlt))
  have hb2 : A[i] ∈ A.take i → r = none := fun h => hF fun k => oL hlt h k.2
  have htk := oN A i
  have hhas := pK (G := GL) w0.heap.size (A.take i) A[i] (by rw [List.length_take]; omega)
  have k1 := bz (G := GL) A[i] 0 ((m.processes.length - 1 : Nat) : Int)
  generalize A[i] = p at hrow hta hns hb1 hb2 hhas k1
  by_cases hr : 0 ≤ p ∧ p < m.processes.length
  case neg =>
    rw [show inR p 0 ((m.processes.length - 1 : Nat) : Int) = false from by simp only [inR, decide_eq_false_iff_not]; omega] at k1
    rw [hb1 hr]
    repeat' (first | ((with_reducible apply o_y); exact y_; rfl) | with_reducible refine aF (by kernel_rfl) (by kernel_rfl) ?_ | with_reducible refine aN ?_ | with_reducible refine aE rfl ?_ | refine aV rfl rfl rfl rr_ rfl rfl rfl ?_ | ((with_reducible apply d_y); exact y_; rfl) | refine ay hG hst (k1) ?_ | with_reducible refine ab rfl ?_ | (with_reducible first | apply ag | apply aa | apply ah | apply ac | apply ai | apply ap | apply au | apply ad | apply ak) | refine av rfl rr_ ?_ | (refine ae rfl rr_ dd_ ?_))
    refine dq x_ rfl (.tmp _ _ rfl) (.tmp _ _ rfl) (fun _ => ?_) (fun _ => ?_)
    · exact .nils 1
    · exact Fin.flat rfl
  rw [show inR p 0 ((m.processes.length - 1 : Nat) : Int) = true from by simp only [inR, decide_eq_true_eq]; omega] at k1
  by_cases hm : p ∈ A.take i
  · rw [decide_eq_true hm] at hhas
    rw [hb2 hm]
    repeat' (first | ((with_reducible apply o_y); exact y_; rfl) | with_reducible refine aF (by kernel_rfl) (by kernel_rfl) ?_ | with_reducible refine aN ?_ | with_reducible refine aE rfl ?_ | refine aX rfl rfl rfl rr_ ?_ | ((with_reducible apply d_y); exact y_; rfl) | refine ic ?_ | refine ay hG hst (k1) ?_ | refine ay hG hst (hhas) ?_ | with_reducible refine ab rfl ?_ | (with_reducible first | apply ag | apply aa | apply ah | apply ac | apply ai | apply ap | apply au | apply ad | apply ak) | refine av rfl rr_ ?_ | (refine ae rfl rr_ dd_ ?_))
    refine dq x_ rfl (.tmp _ _ rfl) (.tmp _ _ rfl) (fun _ => ?_) (fun _ => ?_)
    · exact .nils 1
    · exact Fin.flat rfl
  · rw [decide_eq_false hm] at hhas
    repeat' (first | ((with_reducible apply o_y); exact y_; rfl) | with_reducible refine aF (by kernel_rfl) (by kernel_rfl) ?_ | with_reducible refine aN ?_ | with_reducible refine aE rfl ?_ | refine aX rfl rfl rfl rr_ ?_ | ((with_reducible apply d_y); exact y_; rfl) | refine ic ?_ | refine ay hG hst (k1) ?_ | refine ay hG hst (hhas) ?_ | with_reducible refine ab rfl ?_ | (with_reducible first | apply ag | apply aa | apply ah | apply ac | apply ai | apply ap | apply aB) | refine az rfl rr_ ?_ | (refine ae rfl rr_ dd_ ?_))
    exact aG (i + 1) ⟨by omega, hta hr, hns hm⟩ (by omega) (.of _ nw_ od_ pk_)
end Go.Proofs.YthpdkhejeookhaaGreatDoor
