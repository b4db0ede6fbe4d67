/- Part 14 of the proof, piece 2. -/
import Derived.Test.YthpdkhejeookhaaGreatDoorPart13
import Derived.Test.YthpdkhejeookhaaGreatDoorPart12
import Derived.Test.YthpdkhejeookhaaGreatDoorPart11
import Derived.Test.YthpdkhejeookhaaGreatDoorPart14
namespace Go.Proofs.YthpdkhejeookhaaGreatDoor
open Go Go.RowKit
set_option maxRecDepth 20000
set_option maxHeartbeats 4000000 in
theorem jD (f lo : Nat) (m : aM) (hsm : m.small 1048576) (hsd : iD m) : Ct Tryz.prog GL 165 [.cp f (m.tw lo)] (fun _ => .bool (qK m)) := by
  refine aJ Tryz.func165 rfl Tryz.ntmps165 rfl rfl fun w0 _ hG => ?_
  have hst := cZ
  have hlx := aL.len lo m.contexts
  have hlo := aR.len lo m.store.objects
  have hxl := hsm.2.2.2.1.1
  have hol := hsm.2.1.2.1.1
  have hon := fun (k0 a : Int) h => rk (G := GL) f lo m hxl hsd k0 a h
  have hxr := fun (i : Nat) (h : i < m.contexts.length) => cP (lo := lo) (l := m.contexts) h
  have hsn := fun (i : Nat) (h : i < m.store.objects.length) => (hsm.2.1.2.1.2 _ (List.getElem_mem h)).2
  unfold aM.tw at hon ⊢
  repeat' (first | ((with_reducible apply o_y); exact y_; rfl) | with_reducible refine ab rfl ?_ | (with_reducible first | apply ag | apply aa | apply ah | apply ac | apply ai))
  apply aK (X := Nat) [0] (fun i => [(3, .int .i64 (i : Int))]) (fun _ => []) (fun i => i ≤ m.store.objects.length ∧ ∀ o ∈ m.store.objects.take i, ro m o) (fun i => m.store.objects.length - i) 0 ⟨Nat.zero_le _, by simp⟩
  exact kp_; (repeat (first | exact bj.envNil | refine bj.envCons we_ ?_))
  · exact .refl _
  rintro i ⟨hi, hall⟩
  try dsimp only
  by_cases hlt : i < m.store.objects.length
  case neg =>
    obtain rfl : i = m.store.objects.length := by omega
    rw [List.take_of_length_le (Nat.le_refl _)] at hall
    rw [yG hall]
    repeat' (first | ((with_reducible apply o_y); exact y_; rfl) | with_reducible refine ab rfl ?_ | (with_reducible first | apply ag | apply aa | apply ah | apply ac | apply aH | apply au | apply ar | apply aq) | (refine aj rfl rr_ dd_ ?_))
    refine ao x_ rfl (.tmp _ _ rfl) (fun _ => ?_)
    exact Fin.flat rfl
  have hrow := mT (lo := lo) hlt
  have hta := bu (p := fun o => ro m o) hlt hall
  have hbad := x7 (m := m) (List.getElem_mem hlt)
  have hnl := hsn i hlt
  clear hsn hall
  generalize m.store.objects[i] = o at hrow hta hbad hnl
  obtain ⟨ok, oc, fs, ns⟩ := o
  dsimp only at hrow hnl
  have hnl2 := aS ns
  by_cases hk : ok = 1
  case neg =>
    have hk' : ok ≠ 1 := hk
    replace hta := hta fun h => absurd h hk
    repeat' (first | ((with_reducible apply o_y); exact y_; rfl) | (refine aI ?_; intro ss bb) | refine aA ?_ | with_reducible refine ab rfl ?_ | (with_reducible first | apply ag | apply aa | apply ah | apply ac | apply ai | apply aH | apply ap | apply ar | apply aq) | refine aO rfl rfl rfl rr_ rfl rfl rfl ?_ | (refine bQ rfl rfl rfl rr_ dd_ ?_) | refine av rfl rr_ ?_ | (refine ae rfl rr_ dd_ ?_))
    exact aG (i + 1) ⟨by omega, hta⟩ (by omega) (.of _ nw_ od_ pk_)
  subst hk
  have hk' : ¬ ((1 : Int) ≠ 1) := fun h => h rfl
  by_cases h3 : ns.length = 3
  case neg =>
    have h3' : (ns.length : Int) ≠ 3 := by omega
    replace hta := hta fun _ a b c e => by
      dsimp only at e
      rw [e] at h3; exact absurd rfl h3
    repeat' (first | ((with_reducible apply o_y); exact y_; rfl) | (refine aI ?_; intro ss bb) | refine aA ?_ | with_reducible refine ab rfl ?_ | (with_reducible first | apply ag | apply aa | apply ah | apply ac | apply ai | apply aH | apply ap | apply ar | apply aq) | refine aP rfl rfl rfl rr_ ?_ | (refine bC rfl rfl rfl rr_ dd_ ?_) | (refine ae rfl rr_ dd_ ?_))
    exact aG (i + 1) ⟨by omega, hta⟩ (by omega) (.of _ nw_ od_ pk_)
  obtain ⟨n0, n1, n2, rfl⟩ := yl h3
  clear hnl hnl2 h3
  rw [x1] at hta hbad
  have hln : ([[.int .i64 n0], [.int .i64 n1], [.int .i64 n2]] : List (List TV)).length = 3 := rfl
  simp only [bv, List.map_cons, List.map_nil] at hrow
  by_cases h1 : n1 = -1
  · subst h1
    by_cases h0 : n0 = -1 ∧ n2 = 0
    · obtain ⟨rfl, rfl⟩ := h0
      replace hta := hta (jT.2 ⟨rfl, rfl⟩)
      repeat' (first | ((with_reducible apply o_y); exact y_; rfl) | (refine aI ?_; intro ss bb) | refine aA ?_ | with_reducible refine ab rfl ?_ | (with_reducible first | apply ag | apply aa | apply ah | apply ac | apply ai | apply aH | apply ap | apply ar | apply aq) | refine aP rfl rfl rfl rr_ ?_ | (refine bQ rfl rfl rfl rr_ dd_ ?_) | (refine bC rfl rfl rfl rr_ dd_ ?_) | (refine ae rfl rr_ dd_ ?_) | (refine aj rfl rr_ dd_ ?_))
      exact aG (i + 1) ⟨by omega, hta⟩ (by omega) (.of _ nw_ od_ pk_)
    rw [hbad fun h => h0 (jT.1 h)]
    have k1 := bz (G := GL) (-1) 0 ((m.contexts.length : Int) - 1)
    rw [show inR (-1) 0 ((m.contexts.length : Int) - 1) = false from by simp only [inR, decide_eq_false_iff_not]; omega] at k1
    have k2 := bz (G := GL) (-1) 0 ((m.contexts.length - 1 : Nat) : Int)
    rw [show inR (-1) 0 ((m.contexts.length - 1 : Nat) : Int) = false from by simp only [inR, decide_eq_false_iff_not]; omega] at k2
    by_cases hn0 : n0 = -1
    · have hn2 : ¬ n2 = 0 := fun h => h0 ⟨hn0, h⟩
      by_cases hz : 1 ≤ m.contexts.length
      all_goals
        repeat' (first | ((with_reducible apply o_y); exact y_; rfl) | (refine aI ?_; intro ss bb) | refine aA ?_ | with_reducible refine aF (by kernel_rfl) (by kernel_rfl) ?_ | with_reducible refine aN ?_ | with_reducible refine aE rfl ?_ | refine aX rfl rfl rfl rr_ ?_ | refine aV rfl rfl rfl rr_ rfl rfl rfl ?_ | (refine bJ rfl rfl rfl rr_ (fun hg => ?_) (fun hg => ?_)) | ((with_reducible apply d_y); exact y_; rfl) | refine ay hG hst (k1) ?_ | refine ay hG hst (k2) ?_ | with_reducible refine ab rfl ?_ | (with_reducible first | apply ag | apply aa | apply ah | apply ac | apply ai | apply ap | apply au | apply ad | apply ak) | refine aP rfl rfl rfl rr_ ?_ | (refine bQ rfl rfl rfl rr_ dd_ ?_) | (refine bC rfl rfl rfl rr_ dd_ ?_) | refine av rfl rr_ ?_ | (refine ae rfl rr_ dd_ ?_) | (refine aj rfl rr_ dd_ ?_))
        all_goals
          refine ao x_ rfl (.tmp _ _ rfl) (fun _ => ?_)
          exact Fin.flat rfl
    · by_cases hz : 1 ≤ m.contexts.length
      all_goals
        repeat' (first | ((with_reducible apply o_y); exact y_; rfl) | (refine aI ?_; intro ss bb) | refine aA ?_ | with_reducible refine aF (by kernel_rfl) (by kernel_rfl) ?_ | with_reducible refine aN ?_ | with_reducible refine aE rfl ?_ | refine aX rfl rfl rfl rr_ ?_ | refine aV rfl rfl rfl rr_ rfl rfl rfl ?_ | (refine bJ rfl rfl rfl rr_ (fun hg => ?_) (fun hg => ?_)) | ((with_reducible apply d_y); exact y_; rfl) | refine ay hG hst (k1) ?_ | refine ay hG hst (k2) ?_ | with_reducible refine ab rfl ?_ | (with_reducible first | apply ag | apply aa | apply ah | apply ac | apply ai | apply ap | apply au | apply ad | apply ak) | refine aP rfl rfl rfl rr_ ?_ | refine aO rfl rfl rfl rr_ rfl rfl rfl ?_ | (refine bQ rfl rfl rfl rr_ dd_ ?_) | (refine bC rfl rfl rfl rr_ dd_ ?_) | refine av rfl rr_ ?_ | refine az rfl rr_ ?_ | (refine ae rfl rr_ dd_ ?_) | (refine aj rfl rr_ dd_ ?_))
        all_goals
          refine ao x_ rfl (.tmp _ _ rfl) (fun _ => ?_)
          exact Fin.flat rfl
  by_cases h2 : n2 = 1
  case neg =>
    have h2' : n2 ≠ 1 := h2
    rw [hbad (rF h1 h2)]
    repeat' (first | ((with_reducible apply o_y); exact y_; rfl) | (refine aI ?_; intro ss bb) | refine aA ?_ | with_reducible refine aF (by kernel_rfl) (by kernel_rfl) ?_ | with_reducible refine aN ?_ | with_reducible refine aE rfl ?_ | refine aV rfl rfl rfl rr_ rfl rfl rfl ?_ | (refine cF rfl rfl rfl rr_ dd_ ?_) | ((with_reducible apply d_y); exact y_; rfl) | with_reducible refine ab rfl ?_ | (with_reducible first | apply ag | apply aa | apply ah | apply ac | apply ai | apply ap | apply au | apply ad | apply ak) | refine aP rfl rfl rfl rr_ ?_ | refine aO rfl rfl rfl rr_ rfl rfl rfl ?_ | (refine bC rfl rfl rfl rr_ dd_ ?_) | refine av rfl rr_ ?_ | refine az rfl rr_ ?_ | (refine ae rfl rr_ dd_ ?_) | (refine aj rfl rr_ dd_ ?_))
    refine ao x_ rfl (.tmp _ _ rfl) (fun _ => ?_)
    exact Fin.flat rfl
  have h2' : ¬ n2 ≠ 1 := fun h => h h2
  have k1 := bz (G := GL) n1 0 ((m.contexts.length : Int) - 1)
  by_cases hin : 0 ≤ n1 ∧ n1 < m.contexts.length
  case neg =>
    rw [hbad (q6 h1 hin)]
    rw [show inR n1 0 ((m.contexts.length : Int) - 1) = false from by simp only [inR, decide_eq_false_iff_not]; omega] at k1
    by_cases hz : 1 ≤ m.contexts.length
    · rw [show (m.contexts.length : Int) - 1 = ((m.contexts.length - 1 : Nat) : Int) by omega] at k1
      repeat' (first | ((with_reducible apply o_y); exact y_; rfl) | (refine aI ?_; intro ss bb) | refine aA ?_ | with_reducible refine aF (by kernel_rfl) (by kernel_rfl) ?_ | with_reducible refine aN ?_ | with_reducible refine aE rfl ?_ | refine aX rfl rfl rfl rr_ ?_ | refine aV rfl rfl rfl rr_ rfl rfl rfl ?_ | (refine bW rfl rfl rfl rr_ dd_ ?_) | ((with_reducible apply d_y); exact y_; rfl) | refine ay hG hst (k1) ?_ | with_reducible refine ab rfl ?_ | (with_reducible first | apply ag | apply aa | apply ah | apply ac | apply ai | apply ap | apply au | apply ad | apply ak) | refine aP rfl rfl rfl rr_ ?_ | refine aO rfl rfl rfl rr_ rfl rfl rfl ?_ | (refine bC rfl rfl rfl rr_ dd_ ?_) | refine av rfl rr_ ?_ | refine az rfl rr_ ?_ | (refine ae rfl rr_ dd_ ?_) | (refine aj rfl rr_ dd_ ?_))
      refine ao x_ rfl (.tmp _ _ rfl) (fun _ => ?_)
      exact Fin.flat rfl
    · repeat' (first | ((with_reducible apply o_y); exact y_; rfl) | (refine aI ?_; intro ss bb) | refine aA ?_ | with_reducible refine aF (by kernel_rfl) (by kernel_rfl) ?_ | with_reducible refine aN ?_ | with_reducible refine aE rfl ?_ | refine aX rfl rfl rfl rr_ ?_ | refine aV rfl rfl rfl rr_ rfl rfl rfl ?_ | (refine bW rfl rfl rfl rr_ dd_ ?_) | ((with_reducible apply d_y); exact y_; rfl) | refine ay hG hst (k1) ?_ | with_reducible refine ab rfl ?_ | (with_reducible first | apply ag | apply aa | apply ah | apply ac | apply ai | apply ap | apply au | apply ad | apply ak) | refine aP rfl rfl rfl rr_ ?_ | refine aO rfl rfl rfl rr_ rfl rfl rfl ?_ | (refine bC rfl rfl rfl rr_ dd_ ?_) | refine av rfl rr_ ?_ | refine az rfl rr_ ?_ | (refine ae rfl rr_ dd_ ?_) | (refine aj rfl rr_ dd_ ?_))
      refine ao x_ rfl (.tmp _ _ rfl) (fun _ => ?_)
      exact Fin.flat rfl
  rw [show inR n1 0 ((m.contexts.length : Int) - 1) = true from by simp only [inR, decide_eq_true_eq]; omega] at k1
  rw [show (m.contexts.length : Int) - 1 = ((m.contexts.length - 1 : Nat) : Int) by omega] at k1
  obtain ⟨u, rfl⟩ : ∃ u : Nat, n1 = u := ⟨n1.toNat, by omega⟩
  have hu : u < m.contexts.length := by omega
  have hd1 : decide ((u : Int) = -1) = false := decide_eq_false h1
  have hru := hxr u hu
  have hiff := qX (m := m) (n0 := n0) (n2 := n2) hu
  have hsu := hsd u hu
  have hot := hon m.contexts[u].sender n0 (by omega)
  have hob := ug (m := m) (a := n0) (k := m.contexts[u].sender)
  have hlt2 : OnW m n0 m.contexts[u].sender → n0 < m.contexts.length := fun h => yk hsd h (by omega)
  generalize onB m n0 m.contexts[u].sender = b at hot hob
  rw [← hob] at hiff hlt2
  clear hon hxr hob
  generalize m.contexts[u] = c at hru hiff hot hsu
  rw [hiff] at hta hbad
  by_cases h3 : c.mark = 3
  case neg =>
    have h3' : c.mark ≠ 3 := h3
    rw [hbad fun h => h3 h.2.1]
    repeat' (first | ((with_reducible apply o_y); exact y_; rfl) | (refine aI ?_; intro ss bb) | refine aA ?_ | with_reducible refine aF (by kernel_rfl) (by kernel_rfl) ?_ | with_reducible refine aN ?_ | with_reducible refine aE rfl ?_ | refine aX rfl rfl rfl rr_ ?_ | refine aV rfl rfl rfl rr_ rfl rfl rfl ?_ | (refine cF rfl rfl rfl rr_ dd_ ?_) | (refine bW rfl rfl rfl rr_ dd_ ?_) | ((with_reducible apply d_y); exact y_; rfl) | refine ay hG hst (k1) ?_ | rw [hd1] | with_reducible refine ab rfl ?_ | (with_reducible first | apply ag | apply aa | apply ah | apply ac | apply ai | apply ap | apply au | apply ad | apply ak) | refine aP rfl rfl rfl rr_ ?_ | refine aO rfl rfl rfl rr_ rfl rfl rfl ?_ | (refine bC rfl rfl rfl rr_ dd_ ?_) | refine av rfl rr_ ?_ | refine az rfl rr_ ?_ | (refine ae rfl rr_ dd_ ?_) | (refine aj rfl rr_ dd_ ?_))
    refine ao x_ rfl (.tmp _ _ rfl) (fun _ => ?_)
    exact Fin.flat rfl
  have h3' : ¬ c.mark ≠ 3 := fun h => h h3
  have k2 := bz (G := GL) n0 0 ((m.contexts.length - 1 : Nat) : Int)
  by_cases h0 : 0 ≤ n0 ∧ n0 < m.contexts.length
  case neg =>
    rw [show inR n0 0 ((m.contexts.length - 1 : Nat) : Int) = false from by simp only [inR, decide_eq_false_iff_not]; omega] at k2
    rw [hbad fun h => h0 ⟨h.2.2.1, hlt2 h.2.2.2⟩]
    repeat' (first | ((with_reducible apply o_y); exact y_; rfl) | (refine aI ?_; intro ss bb) | refine aA ?_ | with_reducible refine aF (by kernel_rfl) (by kernel_rfl) ?_ | with_reducible refine aN ?_ | with_reducible refine aE rfl ?_ | refine aX rfl rfl rfl rr_ ?_ | refine aV rfl rfl rfl rr_ rfl rfl rfl ?_ | (refine bW rfl rfl rfl rr_ dd_ ?_) | ((with_reducible apply d_y); exact y_; rfl) | refine ay hG hst (k1) ?_ | refine ay hG hst (k2) ?_ | rw [hd1] | with_reducible refine ab rfl ?_ | (with_reducible first | apply ag | apply aa | apply ah | apply ac | apply ai | apply ap | apply au | apply ad | apply ak) | refine aP rfl rfl rfl rr_ ?_ | refine aO rfl rfl rfl rr_ rfl rfl rfl ?_ | (refine bC rfl rfl rfl rr_ dd_ ?_) | refine av rfl rr_ ?_ | refine az rfl rr_ ?_ | (refine ae rfl rr_ dd_ ?_) | (refine aj rfl rr_ dd_ ?_))
    refine ao x_ rfl (.tmp _ _ rfl) (fun _ => ?_)
    exact Fin.flat rfl
  rw [show inR n0 0 ((m.contexts.length - 1 : Nat) : Int) = true from by simp only [inR, decide_eq_true_eq]; omega] at k2
  cases b
  · rw [hbad fun h => by have := h.2.2.2; cases this]
    repeat' (first | ((with_reducible apply o_y); exact y_; rfl) | (refine aI ?_; intro ss bb) | refine aA ?_ | with_reducible refine aF (by kernel_rfl) (by kernel_rfl) ?_ | with_reducible refine aN ?_ | with_reducible refine aE rfl ?_ | refine aX rfl rfl rfl rr_ ?_ | (refine bW rfl rfl rfl rr_ dd_ ?_) | ((with_reducible apply d_y); exact y_; rfl) | refine ay hG hst (k1) ?_ | refine ay hG hst (k2) ?_ | refine ay hG hst (hot) ?_ | rw [hd1] | with_reducible refine ab rfl ?_ | (with_reducible first | apply ag | apply aa | apply ah | apply ac | apply ai | apply ap | apply au | apply ad | apply ak) | refine aP rfl rfl rfl rr_ ?_ | refine aO rfl rfl rfl rr_ rfl rfl rfl ?_ | (refine bC rfl rfl rfl rr_ dd_ ?_) | refine av rfl rr_ ?_ | refine az rfl rr_ ?_ | (refine ae rfl rr_ dd_ ?_) | (refine aj rfl rr_ dd_ ?_))
    refine ao x_ rfl (.tmp _ _ rfl) (fun _ => ?_)
    exact Fin.flat rfl
  · replace hta := hta ⟨h2, h3, h0.1, rfl⟩
    repeat' (first | ((with_reducible apply o_y); exact y_; rfl) | (refine aI ?_; intro ss bb) | refine aA ?_ | with_reducible refine aF (by kernel_rfl) (by kernel_rfl) ?_ | with_reducible refine aN ?_ | with_reducible refine aE rfl ?_ | refine aX rfl rfl rfl rr_ ?_ | (refine bW rfl rfl rfl rr_ dd_ ?_) | ((with_reducible apply d_y); exact y_; rfl) | refine ay hG hst (k1) ?_ | refine ay hG hst (k2) ?_ | refine ay hG hst (hot) ?_ | rw [hd1] | with_reducible refine ab rfl ?_ | (with_reducible first | apply ag | apply aa | apply ah | apply ac | apply ai | apply ap | apply aB) | refine aP rfl rfl rfl rr_ ?_ | refine aO rfl rfl rfl rr_ rfl rfl rfl ?_ | (refine bC rfl rfl rfl rr_ dd_ ?_) | refine az rfl rr_ ?_ | (refine ae rfl rr_ dd_ ?_) | (refine aj rfl rr_ dd_ ?_))
    exact aG (i + 1) ⟨by omega, hta⟩ (by omega) (.of _ nw_ od_ pk_)
end Go.Proofs.YthpdkhejeookhaaGreatDoor
