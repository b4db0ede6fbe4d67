/- Part 48 of the proof: the texts FrA. -/
import Derived.Test.YtiihihgjiklnoaaGreatDoorQb10
import Derived.Test.YtiihihgjiklnoaaGreatDoorQb44
import Derived.Test.YtiihihgjiklnoaaGreatDoorQb46
import Derived.Test.YtiihihgjiklnoaaGreatDoorQb47
/- FramesOf of the reference and of the program. -/
namespace Go.Proofs.YtiihihgjiklnoaaGreatDoor
set_option maxRecDepth 20000
set_option maxHeartbeats 2000000
open Go Go.RowKit
section
variable {G : World → Prop}
theorem rQ (f lo : Nat) (m : ak) (hsm : m.small 1048576) (hs : fz m) (n : Nat) (hn : m.now = n) (p : ar) (hp : m.processes[n]? = some p) (hat : -1 ≤ p.at_ ∧ p.at_ < m.contexts.length) : Ct Tryz.prog G 97 [.cp f (m.tw lo)] (fun K => .sl K 1 (aO (dc m p.at_))) := by
  refine ao Tryz.func97 rfl Tryz.ntmps97 rfl rfl fun w0 _ hG => ?_
  have hlen := am.len lo m.contexts
  have hxl := hsm.2.2.2.1.1
  have hrp : (m.processes.map (ar.tw lo))[n]? = some [.int .i64 p.at_, .bool p.main] := by rw [List.getElem?_map, hp]; rfl
  have hfl := jc m p.at_
  unfold ak.tw
  rw [hn]
  repeat' (first | refine V_ ?_ | (refine lz ?_; intro ss bb) | refine c_ (fun hc => ?_) (fun hc => ?_) | refine g_ (fun hg => ?_) (fun hg => ?_))
  generalize ss = so; generalize bb = bo
  apply aj (X := Int × Nat × List Int) [0] (fun x => [(4, .int .i64 x.1), (3, .ms so x.2.1 0 x.2.2.length)]) (fun x => [(so, x.2.1, .row 1 (aO x.2.2))]) (fun x => (-1 ≤ x.1 ∧ x.1 < m.contexts.length) ∧ x.2.2 ++ dc m x.1 = dc m p.at_) (fun x => (x.1 + 1).toNat) (p.at_, bo, []) ⟨hat, rfl⟩
  exact kp_; exact nw_
  · exact .refl _
  rintro ⟨k, b2, L⟩ ⟨hk, hL⟩
  dsimp only at hk hL ⊢
  by_cases hneg : k < 0
  · rw [np hneg, List.append_nil] at hL
    rw [← hL]
    repeat' (first | refine W_ ?_ | refine c_ (fun hc => ?_) (fun hc => ?_) | refine g_ (fun hg => ?_) (fun hg => ?_))
    refine aB x_ rfl (.tmp _ _ rfl) (fun _ => ?_)
    exact eK (fun x => .cons (.flat rfl) .nil) List.mem_cons_self
  obtain ⟨q, rfl⟩ : ∃ q : Nat, k = q := ⟨k.toNat, by omega⟩
  have hq : q < m.contexts.length := by omega
  have hrow := cN (lo := lo) hq
  have hst := kP hs hq
  have hpq := hs q hq
  have hll : L.length ≤ (dc m p.at_).length := by rw [← hL, List.length_append]; omega
  rw [hst] at hL
  clear hst
  generalize m.contexts[q] = c at hrow hL hpq
  by_cases h0 : c.mark = 0
  · rw [if_pos h0, ← List.append_assoc] at hL
    repeat' (first | refine W_ ?_ | refine dA ?_ | ((with_reducible apply eT); rfl; rfl; rfl; kernel_rfl; (repeat (first | with_reducible exact mh | with_reducible refine mt ?_)); exact aq _; exact (rfl : _ = 1); omega; exact rf _ _; (intro bq; (repeat (first | with_reducible exact Upd.head _ | with_reducible apply Upd.tail))); intro bb) | refine c_ (fun hc => ?_) (fun hc => ?_) | refine g_ (fun hg => ?_) (fun hg => ?_))
    exact ah (c.sender, bb, L ++ [(q : Int)]) ⟨by dsimp only; omega, hL⟩ (by dsimp only; omega) (.of _ nw_ od_ pk_)
  · rw [if_neg h0, List.nil_append] at hL
    repeat' (first | refine W_ ?_ | refine c_ (fun hc => ?_) (fun hc => ?_) | refine g_ (fun hg => ?_) (fun hg => ?_))
    exact ah (c.sender, b2, L) ⟨by dsimp only; omega, hL⟩ (by dsimp only; omega) (.of _ nw_ od_ pk_)
theorem sp (lo : Nat) (m : ak) (hsm : m.small 1048576) (hs : fz m) (n : Nat) (hn : m.now = n) (p : ar) (hp : m.processes[n]? = some p) (hat : -1 ≤ p.at_ ∧ p.at_ < m.contexts.length) : CtM Tryz.prog G 98 [.agg (m.tw lo)] [] (fun _ : Nat × Nat => True) (fun y => [(y.1, y.2, .row 1 (aO (dc m p.at_)))]) (fun y => .ms y.1 y.2 0 (dc m p.at_).length) := by
  refine aC Tryz.func98 rfl Tryz.ntmps98 rfl rfl rfl fun w0 R gs objsR hG hR => ?_
  obtain rfl := hR.inv0
  clear hR
  have hlen := am.len lo m.contexts
  have hxl := hsm.2.2.2.1.1
  have hrp : (m.processes.map (ar.tw lo))[n]? = some [.int .i64 p.at_, .bool p.main] := by rw [List.getElem?_map, hp]; rfl
  have hfl := jc m p.at_
  unfold ak.tw
  rw [hn]
  repeat' (first | refine V_ ?_ | refine aE ?_ | (refine lz ?_; intro ss bb) | refine c_ (fun hc => ?_) (fun hc => ?_) | refine g_ (fun hg => ?_) (fun hg => ?_))
  generalize ss = so; generalize bb = bo
  apply aj (X := Int × Nat × List Int) [1, 1000000] (fun x => [(4, .int .i64 x.1), (3, .ms so x.2.1 0 x.2.2.length)]) (fun x => (so, x.2.1, .row 1 (aO x.2.2)) :: R) (fun x => (-1 ≤ x.1 ∧ x.1 < m.contexts.length) ∧ x.2.2 ++ dc m x.1 = dc m p.at_) (fun x => (x.1 + 1).toNat) (p.at_, bo, []) ⟨hat, rfl⟩
  exact kp_; exact nw_
  · exact .refl _
  rintro ⟨k, b2, L⟩ ⟨hk, hL⟩
  dsimp only at hk hL ⊢
  by_cases hneg : k < 0
  · rw [np hneg, List.append_nil] at hL
    rw [← hL]
    repeat' (first | refine W_ ?_ | refine c_ (fun hc => ?_) (fun hc => ?_) | refine g_ (fun hg => ?_) (fun hg => ?_))
    exact av x_ rfl (so, b2) trivial rfl (.cons _ _ _ _ (.nil R)) pk_ (.tmp _ _ rfl) rfl
  obtain ⟨q, rfl⟩ : ∃ q : Nat, k = q := ⟨k.toNat, by omega⟩
  have hq : q < m.contexts.length := by omega
  have hrow := cN (lo := lo) hq
  have hst := kP hs hq
  have hpq := hs q hq
  have hll : L.length ≤ (dc m p.at_).length := by rw [← hL, List.length_append]; omega
  rw [hst] at hL
  clear hst
  generalize m.contexts[q] = c at hrow hL hpq
  by_cases h0 : c.mark = 0
  · rw [if_pos h0, ← List.append_assoc] at hL
    repeat' (first | refine W_ ?_ | refine dA ?_ | ((with_reducible apply eT); rfl; rfl; rfl; kernel_rfl; (repeat (first | with_reducible exact mh | with_reducible refine mt ?_)); exact aq _; exact (rfl : _ = 1); omega; exact rf _ _; (intro bq; (repeat (first | with_reducible exact Upd.head _ | with_reducible apply Upd.tail))); intro bb) | refine c_ (fun hc => ?_) (fun hc => ?_) | refine g_ (fun hg => ?_) (fun hg => ?_))
    exact ah (c.sender, bb, L ++ [(q : Int)]) ⟨by dsimp only; omega, hL⟩ (by dsimp only; omega) (.of _ nw_ od_ pk_)
  · rw [if_neg h0, List.nil_append] at hL
    repeat' (first | refine W_ ?_ | refine c_ (fun hc => ?_) (fun hc => ?_) | refine g_ (fun hg => ?_) (fun hg => ?_))
    exact ah (c.sender, b2, L) ⟨by dsimp only; omega, hL⟩ (by dsimp only; omega) (.of _ nw_ od_ pk_)
end
theorem nr (lo : Nat) (m : ak) (hsm : m.small 1048576) : Ct Tryz.prog GL 30 [.agg (m.tw lo)] (fun K => .sl K 1 (aO (d7 m))) := by
  refine ao Tryz.func30 rfl Tryz.ntmps30 rfl rfl fun w0 _ hG => ?_
  have hst := df
  have hct := kj w0.heap.size lo m hsm
  cases hV : dk m with
  | false =>
    rw [show d7 m = [] from if_neg (by rw [hV]; simp)]
    rw [hV] at hct
    unfold ak.tw at hct ⊢
    repeat' (first | refine W_ ?_ | refine aE ?_ | ((with_reducible apply p9 (n := 0)); rfl; rfl; kernel_rfl; kernel_rfl; rfl; kernel_rfl; rfl; rfl; rfl; rfl; intro ss bb) | refine ab hG hst (hct) ?_ | refine c_ (fun hc => ?_) (fun hc => ?_) | refine g_ (fun hg => ?_) (fun hg => ?_))
    refine aB x_ rfl (.tmp _ _ rfl) (fun _ => ?_)
    exact eK (l := ([] : List Int)) (fun x => .cons (.flat rfl) .nil) List.mem_cons_self
  | true =>
    rw [hV] at hct
    by_cases h0 : m.status = 0
    · obtain ⟨hs, n, p, hn, _, hp, ha, h1, h2⟩ := pz hV
      rw [show d7 m = dc m p.at_ from by unfold d7; rw [if_pos ⟨hV, h0⟩, ha]]
      have hfr := rQ (G := GL) w0.heap.size lo m hsm hs n hn p hp ⟨h1, h2⟩
      have h0' : ¬ m.status ≠ 0 := fun h => h h0
      unfold ak.tw at hct hfr ⊢
      repeat' (first | refine W_ ?_ | refine aE ?_ | refine ab hG hst (hct) ?_ | refine ab hG hst (hfr) ?_ | refine c_ (fun hc => ?_) (fun hc => ?_) | refine g_ (fun hg => ?_) (fun hg => ?_))
      refine aB x_ rfl (.tmp _ _ rfl) (fun _ => ?_)
      exact cn (f := fun n : Int => [TV.int .i64 n]) (f' := fun n : Int => [TV.int .i64 n]) (fun x => .cons (.flat rfl) .nil) _
    · rw [show d7 m = [] from if_neg fun h => h0 h.2]
      unfold ak.tw at hct ⊢
      repeat' (first | refine W_ ?_ | refine aE ?_ | ((with_reducible apply p9 (n := 0)); rfl; rfl; kernel_rfl; kernel_rfl; rfl; kernel_rfl; rfl; rfl; rfl; rfl; intro ss bb) | refine ab hG hst (hct) ?_ | refine c_ (fun hc => ?_) (fun hc => ?_) | refine g_ (fun hg => ?_) (fun hg => ?_))
      refine aB x_ rfl (.tmp _ _ rfl) (fun _ => ?_)
      exact eK (l := ([] : List Int)) (fun x => .cons (.flat rfl) .nil) List.mem_cons_self
theorem gL (lo : Nat) (m : ak) (hsm : m.small 1048576) : CtM Tryz.prog GL 31 [.agg (m.tw lo)] [] (fun _ : Nat × Nat => True) (fun y => [(y.1, y.2, .row 1 (aO (d7 m)))]) (fun y => .ms y.1 y.2 0 (d7 m).length) := by
  refine aC Tryz.func31 rfl Tryz.ntmps31 rfl rfl rfl fun w0 R gs objsR hG hR => ?_
  obtain rfl := hR.inv0
  clear hR
  have hst := df
  have hct := i6 lo m hsm
  by_cases h0 : m.status = 0
  · have h0' : ¬ m.status ≠ 0 := fun h => h h0
    cases hV : dk m with
    | false =>
      rw [show d7 m = [] from if_neg (by rw [hV]; simp)]
      rw [hV] at hct
      unfold ak.tw at hct ⊢
      repeat' (first | refine W_ ?_ | refine aE ?_ | refine ab hG hst (hct) ?_ | refine c_ (fun hc => ?_) (fun hc => ?_) | refine g_ (fun hg => ?_) (fun hg => ?_))
      refine db 2 1 (by omega) rfl fun ss => av x_ rfl (ss, 0) trivial rfl (.cons _ _ _ _ (.nil R)) pk_ (.tmp _ _ rfl) rfl
    | true =>
      obtain ⟨hs, n, p, hn, _, hp, ha, h1, h2⟩ := pz hV
      rw [show d7 m = dc m p.at_ from by unfold d7; rw [if_pos ⟨hV, h0⟩, ha]]
      have hfr := sp (G := GL) lo m hsm hs n hn p hp ⟨h1, h2⟩
      rw [hV] at hct
      unfold ak.tw at hct hfr ⊢
      repeat' (first | refine W_ ?_ | refine aE ?_ | refine ab hG hst (hct) ?_ | ((with_reducible apply aF); rfl; kernel_rfl; (repeat (first | exact aD.nil | ((with_reducible apply aD.cons); rfl))); exact hG; exact hfr; exact .nil _; intro y hy; refine br ?_) | refine c_ (fun hc => ?_) (fun hc => ?_) | refine g_ (fun hg => ?_) (fun hg => ?_))
      exact av x_ rfl y trivial rfl (.cons _ _ _ _ (.nil R)) pk_ (.tmp _ _ rfl) rfl
  · rw [show d7 m = [] from if_neg fun h => h0 h.2]
    unfold ak.tw
    repeat' (first | refine W_ ?_ | refine aE ?_ | refine c_ (fun hc => ?_) (fun hc => ?_) | refine g_ (fun hg => ?_) (fun hg => ?_))
    refine db 2 1 (by omega) rfl fun ss => av x_ rfl (ss, 0) trivial rfl (.cons _ _ _ _ (.nil R)) pk_ (.tmp _ _ rfl) rfl
end Go.Proofs.YtiihihgjiklnoaaGreatDoor
