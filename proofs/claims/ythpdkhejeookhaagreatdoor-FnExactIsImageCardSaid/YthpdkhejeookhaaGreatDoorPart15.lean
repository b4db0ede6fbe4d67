/- Part 15 of the proof: the texts ImR, IvN, ImJ, ImL, EngAL, ImO. -/
import Derived.Test.YthpdkhejeookhaaGreatDoorPart12
import Derived.Test.YthpdkhejeookhaaGreatDoorPart14d
import Derived.Test.YthpdkhejeookhaaGreatDoorPart6
import Derived.Test.YthpdkhejeookhaaGreatDoorPart9
import Derived.Test.YthpdkhejeookhaaGreatDoorPart5
import Derived.Test.YthpdkhejeookhaaGreatDoorPart13
import Derived.Lib.LazyBuf
/- IsImage of the reference. -/
namespace Go.Proofs.YthpdkhejeookhaaGreatDoor
set_option maxRecDepth 20000
open Go Go.RowKit
open Classical in
theorem uO {m : aM} {a : Int} (h : gx m a = true) : cO m a := of_decide_eq_true h
open Classical in
theorem rq {m : aM} : qK m = true ↔ ∀ o ∈ m.store.objects, ro m o := decide_eq_true_iff
set_option maxHeartbeats 8000000 in
theorem mo (f lo : Nat) (m : aM) (hsm : m.small 1048576) : Ct Tryz.prog GL 88 [.cp f (m.tw lo)] (fun _ => .bool (dX m)) := by
  refine aJ Tryz.func88 rfl Tryz.ntmps88 rfl rfl fun w0 _ hG => ?_
  have hst := cZ
  have hF := ul (m := m)
  have hT := uH (m := m)
  have hlx := aL.len lo m.contexts
  have hlb := aQ.len lo m.blocks
  have hlp := aU.len lo m.processes
  have hlo := aR.len lo m.store.objects
  have hxl := hsm.2.2.2.1.1
  have hbl := hsm.2.2.1.1
  have hpl := hsm.2.2.2.2.1.1
  have hol := hsm.2.1.2.1.1
  have c1 := lj 0 lo m.base.classes m.base.entries m.base.codes m.base.main hsm.1.1 hsm.1.2.1 hsm.1.2.2
  have c2 := rV (G := GL) hst lo lo m.base.classes m.store.classes hsm.1.1 hsm.2.1.1
  have c3 := oJ 0 lo m.store hsm.2.1 m.blocks.length
  have d1 := bz (G := GL) m.status 0 5
  have d2 := bz (G := GL) m.processes.length 1 20
  have d3 := bz (G := GL) m.now 0 ((m.processes.length : Int) - 1)
  have d4 := ep 0 lo m.store m.blocks.length m.value hsm.2.2.2.2.2.2.1
  have d5 := eK 3 0 m.fault hsm.2.2.2.2.2.2.2
  have d6 := kG (G := GL) m.fault
  rw [j0] at d5
  unfold br.tw at c3 d4
  have e16 := kJ hst 0 lo (.sl lo 3 (m.base.classes.map (am.tw lo))) (.sl lo 4 (m.base.entries.map (aW.tw lo))) m.base.codes m.base.main hsm.1.2.1
  have eX := fun hcl h16 hc1 o ho k hk => mS f lo w0.heap.size m hsm hcl h16 hc1 o ho k hk
  have eB := fun hc1 o ho b => nq f lo w0.heap.size m hsm hc1 o ho b
  have eA := fun h800 hsem hp1 => p0 f lo m hsm h800 hsem hp1
  have eC := fun hdep hsd hpl p hp => p8 f lo m hsm hdep hsd hpl p hp
  have eE := fun hsd => jD f lo m hsm hsd
  unfold aM.tw at eX eB eA eC eE ⊢
  have hv1 : yJ m → cI m.base = true := fun h => h.ver
  cases hV : cI m.base
  case false =>
    rw [hF fun h => by rw [hV] at hv1; cases hv1 h]
    replace c1 : Ct Tryz.prog GL 32 [.cp 0 [.sl lo 3 (m.base.classes.map (am.tw lo)), .sl lo 4 (m.base.codes.map (aT.tw lo)), .sl lo 4 (m.base.entries.map (aW.tw lo)), .int .i64 m.base.main]] (fun _ => .bool false) := hV ▸ c1
    repeat' (first | ((with_reducible apply o_y); exact y_; rfl) | with_reducible refine aF (by kernel_rfl) (by kernel_rfl) ?_ | with_reducible refine aN ?_ | with_reducible refine aE rfl ?_ | refine aV rfl rfl rfl rr_ rfl rfl rfl ?_ | ((with_reducible apply d_y); exact y_; rfl) | refine cw hG hst (c1) ?_ | with_reducible refine ab rfl ?_ | (with_reducible first | apply ag | apply aa | apply ah | apply ac | apply au | apply ad) | refine av rfl rr_ ?_)
    refine ao x_ rfl (.tmp _ _ rfl) (fun _ => ?_)
    exact Fin.flat rfl
  replace c1 : Ct Tryz.prog GL 32 [.cp 0 [.sl lo 3 (m.base.classes.map (am.tw lo)), .sl lo 4 (m.base.codes.map (aT.tw lo)), .sl lo 4 (m.base.entries.map (aW.tw lo)), .int .i64 m.base.main]] (fun _ => .bool true) := hV ▸ c1
  by_cases hS : m.base.classes = m.store.classes
  case neg =>
    rw [hF fun h => hS h.same]
    rw [lA hS] at c2
    repeat' (first | ((with_reducible apply o_y); exact y_; rfl) | with_reducible refine aF (by kernel_rfl) (by kernel_rfl) ?_ | with_reducible refine aN ?_ | with_reducible refine aE rfl ?_ | refine aX rfl rfl rfl rr_ ?_ | refine aV rfl rfl rfl rr_ rfl rfl rfl ?_ | ((with_reducible apply d_y); exact y_; rfl) | refine cw hG hst (c1) ?_ | refine ay hG hst (c2) ?_ | with_reducible refine ab rfl ?_ | (with_reducible first | apply ag | apply aa | apply ah | apply ac | apply au | apply ad) | refine av rfl rr_ ?_)
    refine ao x_ rfl (.tmp _ _ rfl) (fun _ => ?_)
    exact Fin.flat rfl
  rw [rE hS] at c2
  cases hR : gY m.store m.blocks.length
  case false =>
    rw [hF fun h => by have := h.store; rw [hR] at this; cases this]
    rw [hR] at c3
    repeat' (first | ((with_reducible apply o_y); exact y_; rfl) | with_reducible refine aF (by kernel_rfl) (by kernel_rfl) ?_ | with_reducible refine aN ?_ | with_reducible refine aE rfl ?_ | refine aX rfl rfl rfl rr_ ?_ | refine aV rfl rfl rfl rr_ rfl rfl rfl ?_ | ((with_reducible apply d_y); exact y_; rfl) | refine cw hG hst (c1) ?_ | refine cw hG hst (c3) ?_ | refine ay hG hst (c2) ?_ | with_reducible refine ab rfl ?_ | (with_reducible first | apply ag | apply aa | apply ah | apply ac | apply au | apply ad) | refine av rfl rr_ ?_)
    refine ao x_ rfl (.tmp _ _ rfl) (fun _ => ?_)
    exact Fin.flat rfl
  rw [hR] at c3
  by_cases hM : (m.store.objects.length : Int) + m.blocks.length ≤ m.store.made
  case neg =>
    rw [hF fun h => hM h.made]
    have hM' : (m.blocks.length : Int) + m.store.objects.length > m.store.made := by omega
    repeat' (first | ((with_reducible apply o_y); exact y_; rfl) | with_reducible refine aF (by kernel_rfl) (by kernel_rfl) ?_ | with_reducible refine aN ?_ | with_reducible refine aE rfl ?_ | refine aX rfl rfl rfl rr_ ?_ | ((with_reducible apply d_y); exact y_; rfl) | refine cw hG hst (c1) ?_ | refine cw hG hst (c3) ?_ | refine ay hG hst (c2) ?_ | with_reducible refine ab rfl ?_ | (with_reducible first | apply ag | apply aa | apply ah | apply ac | apply au | apply ad) | (refine ae rfl rr_ dd_ ?_))
    refine ao x_ rfl (.tmp _ _ rfl) (fun _ => ?_)
    exact Fin.flat rfl
  have hM' : ¬ (m.blocks.length : Int) + m.store.objects.length > m.store.made := by omega
  repeat' (first | ((with_reducible apply o_y); exact y_; rfl) | with_reducible refine aF (by kernel_rfl) (by kernel_rfl) ?_ | with_reducible refine aN ?_ | with_reducible refine aE rfl ?_ | refine aX rfl rfl rfl rr_ ?_ | ((with_reducible apply d_y); exact y_; rfl) | refine cw hG hst (c1) ?_ | refine cw hG hst (c3) ?_ | refine ay hG hst (c2) ?_ | with_reducible refine bx (id := 3) ?_ | with_reducible refine ab rfl ?_ | (with_reducible first | apply ag | apply aa | apply ah | apply ac | apply ap) | (refine aj rfl rr_ dd_ ?_))
  refine ⟨?_⟩
  clear c1 c2 c3 hM'
  cases h1 : inR m.status 0 5
  case false =>
    rw [hF fun h => by have := h.status; rw [h1] at this; cases this]
    rw [h1] at d1
    repeat' (first | ((with_reducible apply o_y); exact y_; rfl) | with_reducible refine aF (by kernel_rfl) (by kernel_rfl) ?_ | with_reducible refine aN ?_ | with_reducible refine aE rfl ?_ | refine aV rfl rfl rfl rr_ rfl rfl rfl ?_ | ((with_reducible apply d_y); exact y_; rfl) | refine ay hG hst (d1) ?_ | with_reducible refine ab rfl ?_ | (with_reducible first | apply ag | apply aa | apply ah | apply ac | apply au | apply ad) | refine av rfl rr_ ?_)
    refine ao x_ rfl (.tmp _ _ rfl) (fun _ => ?_)
    exact Fin.flat rfl
  rw [h1] at d1
  cases h2 : inR m.processes.length 1 20
  case false =>
    rw [hF fun h => by have := h.procs; rw [h2] at this; cases this]
    rw [h2] at d2
    repeat' (first | ((with_reducible apply o_y); exact y_; rfl) | with_reducible refine aF (by kernel_rfl) (by kernel_rfl) ?_ | with_reducible refine aN ?_ | with_reducible refine aE rfl ?_ | refine aX rfl rfl rfl rr_ ?_ | refine aV rfl rfl rfl rr_ rfl rfl rfl ?_ | ((with_reducible apply d_y); exact y_; rfl) | refine ay hG hst (d1) ?_ | refine ay hG hst (d2) ?_ | with_reducible refine ab rfl ?_ | (with_reducible first | apply ag | apply aa | apply ah | apply ac | apply au | apply ad) | refine av rfl rr_ ?_)
    refine ao x_ rfl (.tmp _ _ rfl) (fun _ => ?_)
    exact Fin.flat rfl
  rw [h2] at d2
  have h2' := of_decide_eq_true h2
  have hp1 : 1 ≤ m.processes.length := by omega
  cases h3 : inR m.now 0 ((m.processes.length : Int) - 1)
  case false =>
    rw [hF fun h => by have := h.now; rw [h3] at this; cases this]
    rw [h3] at d3
    rw [show (m.processes.length : Int) - 1 = ((m.processes.length - 1 : Nat) : Int) by omega] at d3
    repeat' (first | ((with_reducible apply o_y); exact y_; rfl) | with_reducible refine aF (by kernel_rfl) (by kernel_rfl) ?_ | with_reducible refine aN ?_ | with_reducible refine aE rfl ?_ | refine aX rfl rfl rfl rr_ ?_ | refine aV rfl rfl rfl rr_ rfl rfl rfl ?_ | ((with_reducible apply d_y); exact y_; rfl) | refine ay hG hst (d1) ?_ | refine ay hG hst (d2) ?_ | refine ay hG hst (d3) ?_ | with_reducible refine ab rfl ?_ | (with_reducible first | apply ag | apply aa | apply ah | apply ac | apply au | apply ad) | refine av rfl rr_ ?_)
    refine ao x_ rfl (.tmp _ _ rfl) (fun _ => ?_)
    exact Fin.flat rfl
  rw [h3] at d3
  rw [show (m.processes.length : Int) - 1 = ((m.processes.length - 1 : Nat) : Int) by omega] at d3
  cases h4 : ch m.store m.blocks.length m.value
  case false =>
    rw [hF fun h => by have := h.value; unfold qk at this; rw [h4] at this; cases this]
    rw [h4] at d4
    repeat' (first | ((with_reducible apply o_y); exact y_; rfl) | with_reducible refine aF (by kernel_rfl) (by kernel_rfl) ?_ | with_reducible refine aN ?_ | with_reducible refine aE rfl ?_ | refine aX rfl rfl rfl rr_ ?_ | refine aV rfl rfl rfl rr_ rfl rfl rfl ?_ | ((with_reducible apply d_y); exact y_; rfl) | refine ay hG hst (d1) ?_ | refine ay hG hst (d2) ?_ | refine ay hG hst (d3) ?_ | refine cw hG hst (d4) ?_ | with_reducible refine ab rfl ?_ | (with_reducible first | apply ag | apply aa | apply ah | apply ac | apply au | apply ad) | refine av rfl rr_ ?_)
    refine ao x_ rfl (.tmp _ _ rfl) (fun _ => ?_)
    exact Fin.flat rfl
  rw [h4] at d4
  cases h5 : ei m.fault
  case false =>
    rw [hF fun h => by have := h.fault; rw [h5] at this; cases this]
    rw [h5] at d5
    repeat' (first | ((with_reducible apply o_y); exact y_; rfl) | with_reducible refine aF (by kernel_rfl) (by kernel_rfl) ?_ | with_reducible refine aN ?_ | with_reducible refine aE rfl ?_ | refine aX rfl rfl rfl rr_ ?_ | ((with_reducible apply d_y); exact y_; rfl) | refine ay hG hst (d1) ?_ | refine ay hG hst (d2) ?_ | refine ay hG hst (d3) ?_ | refine ay hG hst (d5) ?_ | refine ay hG hst (d6) ?_ | refine cw hG hst (d4) ?_ | with_reducible refine ab rfl ?_ | (with_reducible first | apply ag | apply aa | apply ah | apply ac | apply au | apply ad) | refine av rfl rr_ ?_)
    refine ao x_ rfl (.tmp _ _ rfl) (fun _ => ?_)
    exact Fin.flat rfl
  rw [h5] at d5
  repeat' (first | with_reducible refine aF (by kernel_rfl) (by kernel_rfl) ?_ | with_reducible refine aN ?_ | with_reducible refine aE rfl ?_ | refine aX rfl rfl rfl rr_ ?_ | ((with_reducible apply d_y); exact y_; rfl) | refine ay hG hst (d1) ?_ | refine ay hG hst (d2) ?_ | refine ay hG hst (d3) ?_ | refine ay hG hst (d5) ?_ | refine ay hG hst (d6) ?_ | refine cw hG hst (d4) ?_ | with_reducible refine bx (id := 5) ?_ | (with_reducible first | apply ag | apply ac | apply ap) | refine az rfl rr_ ?_)
  refine ⟨?_⟩
  clear d1 d2 d3 d4 d5 d6
  obtain ⟨hc1, o, ho, hoL⟩ := gu hV
  obtain ⟨hsc, h800, hsem⟩ := jx hR
  have hcl := ng hsc
  have h16 := (iC hsc).1.1
  replace eX := eX hcl h16 hc1 o hoL
  replace eB := eB hc1 o hoL
  replace eA := eA h800 hsem hp1
  have hdep := kg hV
  unfold wK at e16
  rw [ho] at e16
  replace e16 : Ct Tryz.prog GL 108 [.cp 0 [.sl lo 3 (m.base.classes.map (am.tw lo)), .sl lo 4 (m.base.codes.map (aT.tw lo)), .sl lo 4 (m.base.entries.map (aW.tw lo)), .int .i64 m.base.main]] (fun K => .tup [.sl K 1 (bv o), .bool true]) := e16
  repeat' (first | ((with_reducible apply o_y); exact y_; rfl) | refine xD hG hst (e16) ?_ | with_reducible refine ab rfl ?_ | (with_reducible first | apply ag | apply aa | apply ah | apply ac | apply ai))
  apply aK (X := Nat) [0, 3] (fun i => [(5, .int .i64 (i : Int))]) (fun _ => []) (fun i => i ≤ m.contexts.length ∧ ∀ j (h : j < m.contexts.length), j < i → lU m o j m.contexts[j] = true) (fun i => m.contexts.length - i) 0 ⟨Nat.zero_le _, fun _ _ h => absurd h (Nat.not_lt_zero _)⟩
  exact kp_; (repeat (first | exact bj.envNil | refine bj.envCons we_ ?_))
  · exact .refl _
  rintro i ⟨hi, hall⟩
  try dsimp only
  by_cases hlt : i < m.contexts.length
  · have hct := eX i hlt
    cases hB : lU m o i m.contexts[i]
    · rw [hF fun h => by have := (h.outs o ho).1 i hlt; rw [hB] at this; cases this]
      rw [hB] at hct
      repeat' (first | ((with_reducible apply o_y); exact y_; rfl) | refine aw hG hst (hct) ?_ | with_reducible refine ab rfl ?_ | (with_reducible first | apply ag | apply aa | apply ah | apply ac | apply ai | apply ap | apply au | apply ad | apply ak) | refine av rfl rr_ ?_ | (refine ae rfl rr_ dd_ ?_))
      refine ao x_ rfl (.tmp _ _ rfl) (fun _ => ?_)
      exact Fin.flat rfl
    · rw [hB] at hct
      repeat' (first | ((with_reducible apply o_y); exact y_; rfl) | refine aw hG hst (hct) ?_ | with_reducible refine ab rfl ?_ | (with_reducible first | apply ag | apply aa | apply ah | apply ac | apply ai | apply ap | apply aB) | refine az rfl rr_ ?_ | (refine ae rfl rr_ dd_ ?_))
      exact aG (i + 1) ⟨by omega, fun j h hj => by
        rcases Nat.lt_or_ge j i with h1 | h1
        · exact hall j h h1
        · obtain rfl : j = i := by omega
          exact hB⟩ (by omega) (.of _ nw_ od_ pk_)
  obtain rfl : i = m.contexts.length := by omega
  have hctx : ∀ j (h : j < m.contexts.length), lU m o j m.contexts[j] = true := fun j h => hall j h h
  have hsd := nM hctx
  have hplain : ∀ (i : Nat) (h : i < m.contexts.length), m.contexts[i].mark = 0 → (0 ≤ m.contexts[i].code ∧ m.contexts[i].code < m.base.codes.length) ∧ 0 ≤ m.contexts[i].pc := fun i h h0 => by
    obtain ⟨x, _, h2, h3, _⟩ := pg (hctx i h) h0
    exact ⟨h2, h3.1⟩
  replace eC := eC hdep hsd hplain
  replace eE := eE hsd
  clear hall eX hdep hplain e16 hlt hi
  repeat' (first | ((with_reducible apply o_y); exact y_; rfl) | with_reducible refine ab rfl ?_ | (with_reducible first | apply ag | apply aa | apply ah | apply ac | apply ai | apply aH | apply ar | apply aq) | (refine aj rfl rr_ dd_ ?_))
  apply aK (X := Nat) [0, 3] (fun i => [(6, .int .i64 (i : Int))]) (fun _ => []) (fun i => i ≤ m.blocks.length ∧ ∀ b ∈ m.blocks.take i, gP m o b = true) (fun i => m.blocks.length - i) 0 ⟨Nat.zero_le _, by simp⟩
  exact kp_; (repeat (first | exact bj.envNil | refine bj.envCons we_ ?_))
  · exact .refl _
  rintro i ⟨hi, hall⟩
  try dsimp only
  by_cases hlt : i < m.blocks.length
  · have hrow := mI (lo := lo) hlt
    have hct := eB m.blocks[i]
    have hta := bu (p := fun b => gP m o b = true) hlt hall
    have hbad : gP m o m.blocks[i] = false → dX m = false := fun hB => hF fun h => by have := (h.outs o ho).2 _ (List.getElem_mem hlt); rw [hB] at this; cases this
    generalize m.blocks[i] = b at hrow hct hta hbad
    cases hB : gP m o b
    · rw [hbad hB]
      rw [hB] at hct
      repeat' (first | ((with_reducible apply o_y); exact y_; rfl) | refine aw hG hst (hct) ?_ | with_reducible refine ab rfl ?_ | (with_reducible first | apply ag | apply aa | apply ah | apply ac | apply ai | apply ap | apply au | apply ad | apply ak) | refine av rfl rr_ ?_ | (refine ae rfl rr_ dd_ ?_))
      refine ao x_ rfl (.tmp _ _ rfl) (fun _ => ?_)
      exact Fin.flat rfl
    · rw [hB] at hct
      repeat' (first | ((with_reducible apply o_y); exact y_; rfl) | refine aw hG hst (hct) ?_ | with_reducible refine ab rfl ?_ | (with_reducible first | apply ag | apply aa | apply ah | apply ac | apply ai | apply ap | apply aB) | refine az rfl rr_ ?_ | (refine ae rfl rr_ dd_ ?_))
      exact aG (i + 1) ⟨by omega, hta hB⟩ (by omega) (.of _ nw_ od_ pk_)
  obtain rfl : i = m.blocks.length := by omega
  rw [List.take_of_length_le (Nat.le_refl _)] at hall
  have houts : xW m o := ⟨hctx, hall⟩
  clear hall eB hlt hi hctx
  repeat' (first | ((with_reducible apply o_y); exact y_; rfl) | with_reducible refine ab rfl ?_ | (with_reducible first | apply ag | apply aa | apply ah | apply ac | apply ai | apply aH | apply ar | apply aq) | (refine aj rfl rr_ dd_ ?_))
  apply aK (X := Nat) [0] (fun i => [(7, .int .i64 (i : Int))]) (fun _ => []) (fun i => i ≤ m.processes.length ∧ ∀ p ∈ m.processes.take i, inR p.at_ (-1) ((m.contexts.length : Int) - 1) = true) (fun i => m.processes.length - i) 0 ⟨Nat.zero_le _, by simp⟩
  exact kp_; (repeat (first | exact bj.envNil | refine bj.envCons we_ ?_))
  · exact .refl _
  rintro i ⟨hi, hall⟩
  try dsimp only
  by_cases hlt : i < m.processes.length
  · have hrow := mO (lo := lo) hlt
    have hta := bu (p := fun p => inR p.at_ (-1) ((m.contexts.length : Int) - 1) = true) hlt hall
    have hbad : inR m.processes[i].at_ (-1) ((m.contexts.length : Int) - 1) = false → dX m = false := fun hB => hF fun h => by have := h.ats _ (List.getElem_mem hlt); rw [hB] at this; cases this
    generalize m.processes[i] = p at hrow hta hbad
    have hct := bz (G := GL) p.at_ (-1) ((m.contexts.length : Int) - 1)
    have hcs : (m.contexts.length : Int) - 1 = ((m.contexts.length - 1 : Nat) : Int) ∨ ¬ 1 ≤ m.contexts.length := by omega
    cases hB : inR p.at_ (-1) ((m.contexts.length : Int) - 1)
    · rw [hbad hB]
      rw [hB] at hct
      rcases hcs with hcs | hcs
      · rw [hcs] at hct
        have hcs1 : 1 ≤ m.contexts.length := by omega
        repeat' (first | ((with_reducible apply o_y); exact y_; rfl) | with_reducible refine aF (by kernel_rfl) (by kernel_rfl) ?_ | with_reducible refine aN ?_ | with_reducible refine aE rfl ?_ | ((with_reducible apply d_y); exact y_; rfl) | refine ay hG hst (hct) ?_ | with_reducible refine ab rfl ?_ | (with_reducible first | apply ag | apply aa | apply ah | apply ac | apply ai | apply ap | apply au | apply ad | apply ak) | refine av rfl rr_ ?_ | (refine ae rfl rr_ dd_ ?_))
        refine ao x_ rfl (.tmp _ _ rfl) (fun _ => ?_)
        exact Fin.flat rfl
      · repeat' (first | ((with_reducible apply o_y); exact y_; rfl) | with_reducible refine aF (by kernel_rfl) (by kernel_rfl) ?_ | with_reducible refine aN ?_ | with_reducible refine aE rfl ?_ | ((with_reducible apply d_y); exact y_; rfl) | refine ay hG hst (hct) ?_ | with_reducible refine ab rfl ?_ | (with_reducible first | apply ag | apply aa | apply ah | apply ac | apply ai | apply ap | apply au | apply ad | apply ak) | refine av rfl rr_ ?_ | (refine ae rfl rr_ dd_ ?_))
        refine ao x_ rfl (.tmp _ _ rfl) (fun _ => ?_)
        exact Fin.flat rfl
    · rw [hB] at hct
      rcases hcs with hcs | hcs
      · rw [hcs] at hct
        have hcs1 : 1 ≤ m.contexts.length := by omega
        repeat' (first | ((with_reducible apply o_y); exact y_; rfl) | with_reducible refine aF (by kernel_rfl) (by kernel_rfl) ?_ | with_reducible refine aN ?_ | with_reducible refine aE rfl ?_ | ((with_reducible apply d_y); exact y_; rfl) | refine ay hG hst (hct) ?_ | with_reducible refine ab rfl ?_ | (with_reducible first | apply ag | apply aa | apply ah | apply ac | apply ai | apply ap | apply aB) | refine az rfl rr_ ?_ | (refine ae rfl rr_ dd_ ?_))
        exact aG (i + 1) ⟨by omega, hta hB⟩ (by omega) (.of _ nw_ od_ pk_)
      · repeat' (first | ((with_reducible apply o_y); exact y_; rfl) | with_reducible refine aF (by kernel_rfl) (by kernel_rfl) ?_ | with_reducible refine aN ?_ | with_reducible refine aE rfl ?_ | ((with_reducible apply d_y); exact y_; rfl) | refine ay hG hst (hct) ?_ | with_reducible refine ab rfl ?_ | (with_reducible first | apply ag | apply aa | apply ah | apply ac | apply ai | apply ap | apply aB) | refine az rfl rr_ ?_ | (refine ae rfl rr_ dd_ ?_))
        exact aG (i + 1) ⟨by omega, hta hB⟩ (by omega) (.of _ nw_ od_ pk_)
  obtain rfl : i = m.processes.length := by omega
  rw [List.take_of_length_le (Nat.le_refl _)] at hall
  have hats := hall
  clear hall hlt hi
  unfold tJ at eA
  cases hA : alO m
  case none =>
    have hna := vt hA
    rw [hF fun h => hna ⟨h.live.1, h.live.2.1⟩]
    rw [hA] at eA
    replace eA : Ct Tryz.prog GL 163 _ (fun K => .tup [.sl K 1 [], .bool false]) := eA
    repeat' (first | ((with_reducible apply o_y); exact y_; rfl) | refine aw hG hst (eA) ?_ | with_reducible refine ab rfl ?_ | (with_reducible first | apply ag | apply aa | apply ah | apply ac | apply ai | apply aH | apply ar | apply aq) | (refine aj rfl rr_ dd_ ?_))
    apply aK (X := Nat) [0, 9] (fun i => [(10, .int .i64 (i : Int)), (8, .sl w0.heap.size 1 [])]) (fun _ => []) (fun i => i = 0) (fun i => 1 - i) 0 rfl
    exact kp_; (repeat (first | exact bj.envNil | refine bj.envCons we_ ?_))
    · exact .refl _
    rintro i rfl
    try dsimp only
    have hd1 : decide (((0 : Nat) : Int) < ((List.length ([] : List (List TV)) : Nat) : Int)) = false := by simp
    repeat' (first | ((with_reducible apply o_y); exact y_; rfl) | rw [hd1] | with_reducible refine ab rfl ?_ | (with_reducible first | apply ag | apply aa | apply ah | apply ac | apply aH | apply au | apply ar | apply aq) | refine aO rfl rfl rfl rr_ rfl rfl rfl ?_ | refine az rfl rr_ ?_)
    refine ao x_ rfl (.tmp _ _ rfl) (fun _ => ?_)
    exact Fin.flat rfl
  case some L =>
    obtain ⟨hLe, hLok⟩ := vU hA
    rw [hA] at eA
    replace eA : Ct Tryz.prog GL 163 _ (fun K => .tup [.sl K 1 (bv L), .bool true]) := eA
    have hLl := aS L
    have hLn : L.length ≤ 900000000 := by
      have h1 := qM m
      have h2 := pI (l := m.store.objects) (Nat.le_refl _) fun o h => (hsm.2.1.2.1.2 o h).2
      rw [List.take_of_length_le (Nat.le_refl _)] at h2
      have h3 := hsm.2.2.2.2.2.1
      have h4 : (qz m).length ≤ m.store.objects.length * 1048576 := h2
      rw [hLe, List.length_append, List.length_append]
      omega
    have hbad : ∀ p ∈ L, ∀ q, m.processes[p.toNat]? = some q → ¬ cO m q.at_ → dX m = false := fun p hp q hq hn => hF fun h => hn (h.live.2.2 p (hLe ▸ hp) q hq)
    have hgood : (∀ p ∈ L, ∀ q, m.processes[p.toNat]? = some q → cO m q.at_) → qK m = true → dX m = true := fun k1 k2 => hT ⟨hV, hS, hR, hM, h1, h2, h3, h4, h5, fun o' ho' => by rw [ho] at ho'; cases ho'; exact houts, hats, hLe ▸ ⟨hLok.1, hLok.2, k1⟩, rq.1 k2⟩
    have hbadE : qK m = false → dX m = false := fun hB => hF fun h => by have := rq.2 h.exc; rw [hB] at this; cases this
    generalize dX m = V at hbad hgood hbadE ⊢
    generalize hXB : qK m = XB at eE hgood hbadE
    clear hT hF hv1 hV hS hR hM h1 h2 h3 h4 h5 houts hats hA hLe hXB
    repeat' (first | ((with_reducible apply o_y); exact y_; rfl) | refine aw hG hst (eA) ?_ | with_reducible refine ab rfl ?_ | (with_reducible first | apply ag | apply aa | apply ah | apply ac | apply ai | apply aH | apply ar | apply aq) | (refine aj rfl rr_ dd_ ?_))
    apply aK (X := Nat × Bool) [0, 8] (fun x => [(10, .int .i64 (x.1 : Int)), (9, .bool x.2)]) (fun _ => []) (fun x => x.1 ≤ L.length ∧ (x.2 = true → ∀ p ∈ L.take x.1, ∀ q, m.processes[p.toNat]? = some q → cO m q.at_) ∧ (x.2 = false → V = false)) (fun x => L.length - x.1) (0, true) ⟨Nat.zero_le _, fun _ => by simp, fun h => by cases h⟩
    exact kp_; (repeat (first | exact bj.envNil | refine bj.envCons we_ ?_))
    · exact .refl _
    rintro ⟨i, ok⟩ ⟨hi, ha, hb⟩
    dsimp only at hi ha hb ⊢
    by_cases hlt : i < L.length
    · cases ok
      · rw [hb rfl]
        repeat' (first | ((with_reducible apply o_y); exact y_; rfl) | with_reducible refine ab rfl ?_ | (with_reducible first | apply ag | apply aa | apply ah | apply ac | apply aH | apply au | apply ar | apply aq) | refine aP rfl rfl rfl rr_ ?_ | refine aO rfl rfl rfl rr_ rfl rfl rfl ?_ | (refine bQ rfl rfl rfl rr_ dd_ ?_) | refine az rfl rr_ ?_)
        refine ao x_ rfl (.tmp _ _ rfl) (fun _ => ?_)
        exact Fin.flat rfl
      have hrow := gJ hlt
      have hin := hLok.1 _ (List.getElem_mem hlt)
      obtain ⟨u, hu⟩ : ∃ u : Nat, L[i] = u := ⟨L[i].toNat, by omega⟩
      have hul : u < m.processes.length := by omega
      have hct := eC u hul
      have hq : m.processes[L[i].toNat]? = some m.processes[u] := by rw [hu, Int.toNat_natCast, List.getElem?_eq_getElem hul]
      have hta := bu (p := fun p => ∀ q, m.processes[p.toNat]? = some q → cO m q.at_) hlt (ha rfl)
      have hbi := hbad _ (List.getElem_mem hlt) _ hq
      rw [hu] at hrow
      cases hB : gx m m.processes[u].at_
      · rw [hB] at hct
        have hVf : V = false := hbi fun h => by rw [mq h] at hB; cases hB
        repeat' (first | ((with_reducible apply o_y); exact y_; rfl) | refine aw hG hst (hct) ?_ | with_reducible refine ab rfl ?_ | (with_reducible first | apply ag | apply aa | apply ah | apply ac | apply ai | apply ap | apply aB) | refine aP rfl rfl rfl rr_ ?_ | (refine bQ rfl rfl rfl rr_ dd_ ?_) | refine av rfl rr_ ?_)
        exact aG (i + 1, false) ⟨by dsimp only; omega, fun h => (by cases h), fun _ => hVf⟩ (by dsimp only; omega) (.of _ nw_ od_ pk_)
      · rw [hB] at hct
        have hcp := uO hB
        repeat' (first | ((with_reducible apply o_y); exact y_; rfl) | refine aw hG hst (hct) ?_ | with_reducible refine ab rfl ?_ | (with_reducible first | apply ag | apply aa | apply ah | apply ac | apply ai | apply ap | apply aB) | refine aP rfl rfl rfl rr_ ?_ | (refine bQ rfl rfl rfl rr_ dd_ ?_) | refine av rfl rr_ ?_)
        exact aG (i + 1, true) ⟨by dsimp only; omega, fun _ => hta fun q hqq => by rw [hq] at hqq; cases hqq; exact hcp, fun h => (by cases h)⟩ (by dsimp only; omega) (.of _ nw_ od_ pk_)
    · obtain rfl : i = L.length := by omega
      rw [List.take_of_length_le (Nat.le_refl _)] at ha
      cases ok
      · rw [hb rfl]
        repeat' (first | ((with_reducible apply o_y); exact y_; rfl) | with_reducible refine ab rfl ?_ | (with_reducible first | apply ag | apply aa | apply ah | apply ac | apply aH | apply au | apply ar | apply aq) | refine aO rfl rfl rfl rr_ rfl rfl rfl ?_ | (refine bC rfl rfl rfl rr_ dd_ ?_) | refine az rfl rr_ ?_)
        refine ao x_ rfl (.tmp _ _ rfl) (fun _ => ?_)
        exact Fin.flat rfl
      have hVX : V = XB := by
        cases XB
        · exact hbadE rfl
        · exact hgood (ha rfl) rfl
      rw [hVX]
      repeat' (first | ((with_reducible apply o_y); exact y_; rfl) | refine aw hG hst (eE) ?_ | with_reducible refine ab rfl ?_ | (with_reducible first | apply ag | apply aa | apply ah | apply ac | apply aH | apply au | apply ar | apply aq) | refine aP rfl rfl rfl rr_ ?_ | refine aO rfl rfl rfl rr_ rfl rfl rfl ?_ | (refine bC rfl rfl rfl rr_ dd_ ?_) | refine az rfl rr_ ?_)
      refine ao x_ rfl (.tmp _ _ rfl) (fun _ => ?_)
      exact Fin.flat rfl
theorem kX (lo : Nat) (m : aM) (hsm : m.small 1048576) : Ct Tryz.prog GL 26 [.agg (m.tw lo)] (fun _ => .bool (dX m)) := by
  refine aJ Tryz.func26 rfl Tryz.ntmps26 rfl rfl fun w0 _ hG => ?_
  have hst := cZ
  have hct := mo w0.heap.size lo m hsm
  unfold aM.tw at hct ⊢
  repeat' (first | ((with_reducible apply o_y); exact y_; rfl) | refine bf ?_ | refine aw hG hst (hct) ?_ | with_reducible refine ab rfl ?_ | (with_reducible first | apply ag | apply aa | apply ah | apply ac | apply au))
  refine ao x_ rfl (.tmp _ _ rfl) (fun _ => ?_)
  exact Fin.flat rfl
set_option maxRecDepth 20000
section
variable {G : World → Prop}
theorem qg (hst : aY G) (lo : Nat) (n : Int) (bl : Bool) (pr sl : Int) (is : List aD) (hn : is.length ≤ 1048576) : Ct Tryz.prog G 193 [.int .i64 n, .cp 0 [.bool bl, .int .i64 pr, .int .i64 sl, .sl lo 4 (is.map (aD.tw lo))]] (fun _ => .bool (inR n 0 ((is.length : Int) - 1))) := by
  refine aJ Tryz.func193 rfl Tryz.ntmps193 rfl rfl fun w0 _ hG => ?_
  have hil := aD.len lo is
  repeat' (first | ((with_reducible apply o_y); exact y_; rfl) | refine aw hG hst (a7 _ _ _) ?_ | with_reducible refine ab rfl ?_ | (with_reducible first | apply ag | apply aa | apply ah | apply ac | apply au))
  refine ao x_ rfl (.tmp _ _ rfl) (fun _ => ?_)
  exact Fin.flat rfl
theorem ko (hst : aY G) (n least : Int) (bl : Bool) (pr sl : Int) (t : TV) : Ct Tryz.prog G 194 [.int .i64 n, .agg [.bool bl, .int .i64 pr, .int .i64 sl, t], .int .i64 least] (fun _ => .bool (inR n least (IntKind.i64.wrap (sl - 1)))) := by
  refine aJ Tryz.func194 rfl Tryz.ntmps194 rfl rfl fun w0 _ hG => ?_
  repeat' (first | ((with_reducible apply o_y); exact y_; rfl) | refine bf ?_ | refine aw hG hst (a7 _ _ _) ?_ | with_reducible refine ab rfl ?_ | (with_reducible first | apply ag | apply aa | apply ah | apply ac | apply au))
  refine ao x_ rfl (.tmp _ _ rfl) (fun _ => ?_)
  exact Fin.flat rfl
set_option maxRecDepth 8000 in
set_option maxHeartbeats 8000000 in
theorem sN (hst : aY G) (hse : ∀ s : ByteArray, s.size ≤ 1048576 → Ct Tryz.prog G 118 [.str s] (fun _ => .bool (cm s.data.toList)))
    (lo lo2 : Nat) (cl : List am) (cen : TV) (cs : List aT) (mn : Int) (hcl : cl.length ≤ 1048576) (hcs : cs.length ≤ 1048576 ∧ ∀ y ∈ cs, aT.small 1048576 y) (o : List Int) (hinv : cB cs.length o) (k : Nat) (own : aT) (hk : cs[k]? = some own) (hsl : 0 ≤ own.slots ∧ own.slots ≤ 30)
    (x : aD) (hx : x.text.size ≤ 1048576) :
    Ct Tryz.prog G 120 [.agg [.sl lo 3 (cl.map (am.tw lo)), .sl lo 4 (cs.map (aT.tw lo)), cen, .int .i64 mn], .sl lo2 1 (bv o), .int .i64 (k : Int), .agg [.int .i64 x.op, .int .i64 x.a, .int .i64 x.b, .str x.text]] (fun _ => .bool (dT cs cl.length o k own x)) := by
  obtain ⟨op, a, b, t⟩ := x
  dsimp only at hx ⊢
  refine aJ Tryz.func120 rfl Tryz.ntmps120 rfl rfl fun w0 _ hG => ?_
  have hl1 := am.len lo cl
  have hl2 := aT.len lo cs
  have hll := aS o
  have hkl : k < cs.length := (List.getElem?_eq_some_iff.1 hk).1
  have hrk : (cs.map (aT.tw lo))[k]? = some [.bool own.block, .int .i64 own.params, .int .i64 own.slots, .sl lo 4 (own.instrs.map (aD.tw lo))] := by rw [List.getElem?_map, hk]; rfl
  have hil := aD.len lo own.instrs
  have hin : own.instrs.length ≤ 1048576 := (hcs.2 own (List.mem_of_getElem? hk)).1
  have hw : IntKind.i64.wrap (own.slots - 1) = own.slots - 1 := IntWalk.i64_in _ (by omega)
  repeat' (first | ((with_reducible apply o_y); exact y_; rfl) | refine bf ?_ | refine aw hG hst (tT _) ?_ | with_reducible refine bx (id := 2) ?_ | with_reducible refine ab rfl ?_ | (with_reducible first | apply ag | apply aa | apply ah | apply ac))
  refine ⟨ag ?_⟩
  apply en (X := Unit) [1, 2, 4, 7] (fun _ => [(54, .bool (!decide (dn ⟨op, a, b, t⟩)))]) (fun _ => []) (fun _ => True)
  case hk => (repeat (first | exact gn.nil | (apply gn.cons; rfl)))
  · clear hrk hk hinv hse hl1 hl2 hll hin hil
    repeat' (first | ((with_reducible apply o_y); exact y_; rfl) | refine aw hG hst (a7 _ _ _) ?_ | with_reducible refine ab rfl ?_ | (with_reducible first | apply aa | apply ah) | refine aP rfl rfl rfl rr_ ?_ | refine aO rfl rfl rfl rr_ rfl rfl rfl ?_ | refine dK rfl rfl rfl rr_ rfl rfl ?_ | (refine bm rfl rfl rfl rr_ (fun hg => ?_) (fun hg => ?_)) | (refine bV rfl rfl rfl rr_ (fun hg => ?_) (fun hg => ?_)))
    all_goals
      refine dh () trivial (.of _ (bj.envCons (fN rfl ?_) bj.envNil) od_ pk_)
      simp only [Bool.not_eq_true', Bool.not_eq_false', ne_eq, Decidable.not_not] at *
      first
        | (simp [dn, *]; done)
  intro _ _
  by_cases hh : dn ⟨op, a, b, t⟩
  case neg =>
    have hB : dT cs cl.length o k own ⟨op, a, b, t⟩ = false := by unfold dT; rw [decide_eq_false hh]; rfl
    rw [hB, decide_eq_false hh, Bool.not_false]
    repeat' (first | ((with_reducible apply o_y); exact y_; rfl) | with_reducible refine ab rfl ?_ | (with_reducible first | apply ag | apply aa | apply ah | apply ac | apply au | apply ad) | refine av rfl rr_ ?_)
    refine ao x_ rfl (.tmp _ _ rfl) (fun _ => ?_)
    exact Fin.flat rfl
  have hB : dT cs cl.length o k own ⟨op, a, b, t⟩ = cz cs cl.length o k own ⟨op, a, b, t⟩ := by unfold dT; rw [decide_eq_true hh]; rfl
  rw [hB, decide_eq_true hh, Bool.not_true]
  have hinv' : cB o.length o := by rw [hinv.1]; exact hinv
  have hvf : dI cs o k b = none → qd cs o k ⟨op, a, b, t⟩ = false := fun h => by
    unfold qd
    dsimp only
    rw [h]
  clear hB hk
  repeat' (first | ((with_reducible apply o_y); exact y_; rfl) | (refine aI ?_; intro ss bb) | refine aA ?_ | refine jF ?_ | refine aw hG hst (a7 _ _ _) ?_ | refine aw hG hst (nR hst _ hx) ?_ | refine aw hG hst (hse _ hx) ?_ | refine aw hG hst (fr _ hx) ?_ | ((with_reducible apply pO); rfl; rfl; kernel_rfl; exact hG; exact hst; (repeat (first | exact dU.nil | ((with_reducible apply dU.cons); rfl; exact .same _))); (repeat (first | exact im.nil | ((with_reducible apply im.cons); (((with_reducible apply d7.mpSame); (repeat (with_reducible exact mh))))))); rfl; first | exact qg hst lo _ _ _ _ _ hin | exact ko hst _ _ _ _ _ _) | with_reducible refine bx (id := 24) ?_ | with_reducible refine ab rfl ?_ | (with_reducible first | apply ag | apply aa | apply ah | apply ac | apply ai | apply ap | apply au | apply ad | apply ak | apply aB) | refine aP rfl rfl rfl rr_ ?_ | refine aO rfl rfl rfl rr_ rfl rfl rfl ?_ | (refine bV rfl rfl rfl rr_ (fun hg => ?_) (fun hg => ?_)) | refine az rfl rr_ ?_ | (refine ae rfl rr_ dd_ ?_) | (refine bD rfl rr_ (fun hc => ?_) (fun hc => ?_)))
  all_goals first
    | (refine ao x_ rfl (.tmp _ _ rfl) (fun _ => ?_)
       clear hrk hl1 hl2 hll hil hcs hse hh hinv
       refine aZ ?_
       first
         | (simp [cz, *]; done))
    | (refine ⟨?_⟩
       generalize ss = s12; generalize bb = b12
       repeat' (first | ((with_reducible apply o_y); exact y_; rfl) | with_reducible refine ab rfl ?_ | (with_reducible first | apply ag | apply aa | apply ah | apply ac | apply ai))
       apply aK (X := Nat) [1, 4, 7, 12, 14, 62] (fun n => [(15, .int .i64 (upN o n (k : Int))), (16, .int .i64 (n : Int))]) (fun _ => [(s12, b12, .box [.bool own.block, .int .i64 own.params, .int .i64 own.slots, .sl lo 4 (own.instrs.map (aD.tw lo))])]) (fun n => n ≤ b.toNat) (fun n => b.toNat - n) 0 (Nat.zero_le _)
       exact kp_; (repeat (first | exact bj.envNil | refine bj.envCons we_ ?_))
       · exact .refl _
       intro n hn
       try dsimp only at hn ⊢
       have hol : o.length = cs.length := hinv.1
       have hup := oH hinv' n (k : Int) (.inr ⟨by omega, by omega⟩)
       by_cases hnb : (n : Int) < b
       · by_cases hat : 0 ≤ upN o n (k : Int)
         · obtain ⟨j, hj⟩ : ∃ j : Nat, upN o n (k : Int) = j := ⟨(upN o n (k : Int)).toNat, by omega⟩
           have hs := gm o n (k : Int)
           rw [if_neg (by omega), hj] at hs
           have hge := wG hinv' (k := (k : Int)) ⟨by omega, by omega⟩ n hat
           rw [hj] at hup hge
           have hcl2 := hcs.1
           have hrow := dW (o := o) (j := j) (by omega)
           rw [hj]
           repeat' (first | ((with_reducible apply o_y); exact y_; rfl) | with_reducible refine ab rfl ?_ | (with_reducible first | apply ag | apply aa | apply ah | apply ac | apply ai | apply ap | apply aB) | refine aP rfl rfl rfl rr_ ?_ | (refine bQ rfl rfl rfl rr_ dd_ ?_) | (refine ae rfl rr_ dd_ ?_))
           exact aG (n + 1) (by omega) (by omega) (.of _ nw_ od_ pk_)
         · have hv := hvf (pj (n := n) (by omega) (by omega))
           repeat' (first | ((with_reducible apply o_y); exact y_; rfl) | with_reducible refine ab rfl ?_ | (with_reducible first | apply ag | apply aa | apply ah | apply ac | apply aH | apply au | apply ar | apply aq | apply ad | apply ak) | refine aP rfl rfl rfl rr_ ?_ | refine aO rfl rfl rfl rr_ rfl rfl rfl ?_ | (refine bQ rfl rfl rfl rr_ dd_ ?_) | refine av rfl rr_ ?_ | (refine aj rfl rr_ dd_ ?_))
           refine ao x_ rfl (.tmp _ _ rfl) (fun _ => ?_)
           refine aZ ?_
           clear hrk hl1 hl2 hll hil hcs hse hh hinv hvf
           subst_vars
           simp [cz, hv]
       · by_cases hb0 : b < 0
         · have hv := hvf (o8 hb0)
           repeat' (first | ((with_reducible apply o_y); exact y_; rfl) | with_reducible refine ab rfl ?_ | (with_reducible first | apply ag | apply aa | apply ah | apply ac | apply aH | apply au | apply ar | apply aq | apply ad | apply ak) | refine aP rfl rfl rfl rr_ ?_ | refine aO rfl rfl rfl rr_ rfl rfl rfl ?_ | (refine bC rfl rfl rfl rr_ dd_ ?_) | (refine bm rfl rfl rfl rr_ (fun hg => ?_) (fun hg => ?_)) | refine av rfl rr_ ?_ | refine az rfl rr_ ?_ | (refine ae rfl rr_ dd_ ?_))
           all_goals
             refine ao x_ rfl (.tmp _ _ rfl) (fun _ => ?_)
             refine aZ ?_
             clear hrk hl1 hl2 hll hil hcs hse hh hinv hvf
             subst_vars
             simp [cz, hv]
         · obtain rfl : b = (n : Int) := by omega
           by_cases hat : 0 ≤ upN o n (k : Int)
           · obtain ⟨j, hj⟩ : ∃ j : Nat, upN o n (k : Int) = j := ⟨(upN o n (k : Int)).toNat, by omega⟩
             rw [hj] at hup
             have hjl : j < cs.length := by omega
             have hry := bN (lo := lo) hjl
             have hlev : dI cs o k (n : Int) = some cs[j] := qZ (by omega) (by rw [Int.toNat_natCast]; exact hj) (List.getElem?_eq_getElem hjl)
             generalize cs[j] = y at hry hlev
             rw [hj]
             repeat' (first | ((with_reducible apply o_y); exact y_; rfl) | with_reducible refine aF (by kernel_rfl) (by kernel_rfl) ?_ | with_reducible refine aN ?_ | with_reducible refine aE rfl ?_ | ((with_reducible apply d_y); exact y_; rfl) | ((with_reducible apply xR); rfl; rfl; kernel_rfl; exact hG; exact hst; (repeat (first | exact dU.nil | ((with_reducible apply dU.cons); rfl; exact .same _))); (repeat (exact im.nil)); rfl; exact ko hst _ _ _ _ _ _) | with_reducible refine ab rfl ?_ | (with_reducible first | apply ag | apply aa | apply ah | apply ac | apply aH | apply ap | apply au | apply ar | apply aq | apply ad | apply ak) | refine aP rfl rfl rfl rr_ ?_ | refine aO rfl rfl rfl rr_ rfl rfl rfl ?_ | (refine bC rfl rfl rfl rr_ dd_ ?_) | refine az rfl rr_ ?_ | (refine ae rfl rr_ dd_ ?_) | (refine aj rfl rr_ dd_ ?_))
             all_goals first
               | (refine ao x_ rfl (.tmp _ _ rfl) (fun _ => ?_)
                  refine aZ ?_
                  clear hrk hl1 hl2 hll hil hcs hse hh hinv hvf
                  subst_vars
                  simp [cz, qd, hlev]; done)
           · have hv := hvf (pj (n := n) (by omega) (by omega))
             repeat' (first | ((with_reducible apply o_y); exact y_; rfl) | with_reducible refine ab rfl ?_ | (with_reducible first | apply ag | apply aa | apply ah | apply ac | apply aH | apply au | apply ar | apply aq | apply ad | apply ak) | refine aO rfl rfl rfl rr_ rfl rfl rfl ?_ | (refine bQ rfl rfl rfl rr_ dd_ ?_) | (refine bC rfl rfl rfl rr_ dd_ ?_) | refine av rfl rr_ ?_ | refine az rfl rr_ ?_)
             refine ao x_ rfl (.tmp _ _ rfl) (fun _ => ?_)
             refine aZ ?_
             clear hrk hl1 hl2 hll hil hcs hse hh hinv hvf
             subst_vars
             simp [cz, hv])
end
end Go.Proofs.YthpdkhejeookhaaGreatDoor
