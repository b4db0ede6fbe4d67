/- Part 40 of the proof: the texts FrA. -/
import Derived.Test.YtofnnnpahglfdaaGreatDoorFo3
import Derived.Test.YtofnnnpahglfdaaGreatDoorFo34
import Derived.Test.YtofnnnpahglfdaaGreatDoorFo36
import Derived.Test.YtofnnnpahglfdaaGreatDoorFo37
set_option linter.all false
set_option maxHeartbeats 2000000
set_option maxRecDepth 20000
namespace Go.Proofs.YtofnnnpahglfdaaGreatDoor
open Go Go.RowKit
section
variable {G : World -> Prop}
theorem tk (f lo : Nat) (m : ai) (hsm : m.small 1048576) (hs : fE m) (n : Nat) (hn : m.now = n) (p : au) (hp : m.processes[n]? = some p) (hat : -1 <= p.at_ /\ p.at_ < m.contexts.length) : Ct Tryz.prog G 57 [.cp f (m.tw lo)] (fun K => .sl K 1 (aS (dc m p.at_))) := by
 refine am Tryz.func57 rfl Tryz.ntmps57 rfl rfl fun w0 _ hG => ?_
 have hlen := ap.len lo m.contexts
 have hxl := hsm.2.2.2.1.1
 have hrp : (m.processes.map (au.tw lo))[n]? = some [.int .i64 p.at_, .bool p.main] := by rw [List.getElem?_map, hp]; rfl
 have hfl := jS m p.at_
 unfold ai.tw
 rw [hn]
 repeat' (first | refine V_ ?_ | (refine kQ ?_; intro ss bb) | refine c_ (fun hc => ?_) (fun hc => ?_) | refine g_ (fun hg => ?_) (fun hg => ?_))
 generalize ss = so; generalize bb = bo
 apply ak (X := Int × Nat × List Int) [0] (fun x => [(4, .int .i64 x.1), (3, .ms so x.2.1 0 x.2.2.length)]) (fun x => [(so, x.2.1, .row 1 (aS x.2.2))]) (fun x => (-1 <= x.1 /\ x.1 < m.contexts.length) /\ x.2.2 ++ dc m x.1 = dc m p.at_) (fun x => (x.1 + 1).toNat) (p.at_, bo, []) ⟨hat, rfl⟩
 exact kp_; exact nw_
 ·exact .refl _
 rintro ⟨k, b2, L⟩ ⟨hk, hL⟩
 dsimp only at hk hL |-
 by_cases hneg : k < 0
 ·rw [om hneg, List.append_nil] at hL
  rw [<- hL]
  repeat' (first | refine W_ ?_ | refine c_ (fun hc => ?_) (fun hc => ?_) | refine g_ (fun hg => ?_) (fun hg => ?_))
  refine aE x_ rfl (.tmp _ _ rfl) (fun _ => ?_)
  exact xu (fun x => .cons (.flat rfl) .nil) List.mem_cons_self
 obtain ⟨q, rfl⟩ : ∃ q : Nat, k = q := ⟨k.toNat, by omega⟩
 have hq : q < m.contexts.length := by omega
 have hrow := cx (lo := lo) hq
 have hst := mr hs hq
 have hpq := hs q hq
 have hll : L.length <= (dc m p.at_).length := by rw [<- hL, List.length_append]; omega
 rw [hst] at hL
 clear hst
 generalize m.contexts[q] = c at hrow hL hpq
 by_cases h0 : c.mark = 0
 ·rw [if_pos h0, <- List.append_assoc] at hL
  repeat' (first | refine W_ ?_ | refine cH ?_ | ((with_reducible apply ck); rfl; rfl; rfl; kernel_rfl; (repeat (first | with_reducible exact mh | with_reducible refine mt ?_)); exact ao _; exact (rfl : _ = 1); omega; exact uD _ _; (intro bq; (repeat (first | with_reducible exact Upd.head _ | with_reducible apply Upd.tail))); intro bb) | refine c_ (fun hc => ?_) (fun hc => ?_) | refine g_ (fun hg => ?_) (fun hg => ?_))
  exact ag (c.sender, bb, L ++ [(q : Int)]) ⟨by dsimp only; omega, hL⟩ (by dsimp only; omega) (.of _ nw_ od_ pk_)
 ·rw [if_neg h0, List.nil_append] at hL
  repeat' (first | refine W_ ?_ | refine c_ (fun hc => ?_) (fun hc => ?_) | refine g_ (fun hg => ?_) (fun hg => ?_))
  exact ag (c.sender, b2, L) ⟨by dsimp only; omega, hL⟩ (by dsimp only; omega) (.of _ nw_ od_ pk_)
theorem sO (lo : Nat) (m : ai) (hsm : m.small 1048576) (hs : fE m) (n : Nat) (hn : m.now = n) (p : au) (hp : m.processes[n]? = some p) (hat : -1 <= p.at_ /\ p.at_ < m.contexts.length) : CtM Tryz.prog G 140 [.agg (m.tw lo)] [] (fun _ : Nat × Nat => True) (fun y => [(y.1, y.2, .row 1 (aS (dc m p.at_)))]) (fun y => .ms y.1 y.2 0 (dc m p.at_).length) := by
 refine aC Tryz.func140 rfl Tryz.ntmps140 rfl rfl rfl fun w0 R gs objsR hG hR => ?_
 obtain rfl := hR.inv0
 clear hR
 have hlen := ap.len lo m.contexts
 have hxl := hsm.2.2.2.1.1
 have hrp : (m.processes.map (au.tw lo))[n]? = some [.int .i64 p.at_, .bool p.main] := by rw [List.getElem?_map, hp]; rfl
 have hfl := jS m p.at_
 unfold ai.tw
 rw [hn]
 repeat' (first | refine V_ ?_ | refine aD ?_ | (refine kQ ?_; intro ss bb) | refine c_ (fun hc => ?_) (fun hc => ?_) | refine g_ (fun hg => ?_) (fun hg => ?_))
 generalize ss = so; generalize bb = bo
 apply ak (X := Int × Nat × List Int) [1, 1000000] (fun x => [(4, .int .i64 x.1), (3, .ms so x.2.1 0 x.2.2.length)]) (fun x => (so, x.2.1, .row 1 (aS x.2.2)) :: R) (fun x => (-1 <= x.1 /\ x.1 < m.contexts.length) /\ x.2.2 ++ dc m x.1 = dc m p.at_) (fun x => (x.1 + 1).toNat) (p.at_, bo, []) ⟨hat, rfl⟩
 exact kp_; exact nw_
 ·exact .refl _
 rintro ⟨k, b2, L⟩ ⟨hk, hL⟩
 dsimp only at hk hL |-
 by_cases hneg : k < 0
 ·rw [om hneg, List.append_nil] at hL
  rw [<- hL]
  repeat' (first | refine W_ ?_ | refine c_ (fun hc => ?_) (fun hc => ?_) | refine g_ (fun hg => ?_) (fun hg => ?_))
  exact av x_ rfl (so, b2) trivial rfl (.cons _ _ _ _ (.nil R)) pk_ (.tmp _ _ rfl) rfl
 obtain ⟨q, rfl⟩ : ∃ q : Nat, k = q := ⟨k.toNat, by omega⟩
 have hq : q < m.contexts.length := by omega
 have hrow := cx (lo := lo) hq
 have hst := mr hs hq
 have hpq := hs q hq
 have hll : L.length <= (dc m p.at_).length := by rw [<- hL, List.length_append]; omega
 rw [hst] at hL
 clear hst
 generalize m.contexts[q] = c at hrow hL hpq
 by_cases h0 : c.mark = 0
 ·rw [if_pos h0, <- List.append_assoc] at hL
  repeat' (first | refine W_ ?_ | refine cH ?_ | ((with_reducible apply ck); rfl; rfl; rfl; kernel_rfl; (repeat (first | with_reducible exact mh | with_reducible refine mt ?_)); exact ao _; exact (rfl : _ = 1); omega; exact uD _ _; (intro bq; (repeat (first | with_reducible exact Upd.head _ | with_reducible apply Upd.tail))); intro bb) | refine c_ (fun hc => ?_) (fun hc => ?_) | refine g_ (fun hg => ?_) (fun hg => ?_))
  exact ag (c.sender, bb, L ++ [(q : Int)]) ⟨by dsimp only; omega, hL⟩ (by dsimp only; omega) (.of _ nw_ od_ pk_)
 ·rw [if_neg h0, List.nil_append] at hL
  repeat' (first | refine W_ ?_ | refine c_ (fun hc => ?_) (fun hc => ?_) | refine g_ (fun hg => ?_) (fun hg => ?_))
  exact ag (c.sender, b2, L) ⟨by dsimp only; omega, hL⟩ (by dsimp only; omega) (.of _ nw_ od_ pk_)
end
theorem mC (lo : Nat) (m : ai) (hsm : m.small 1048576) : CtM Tryz.prog GL 61 [.agg (m.tw lo)] [] (fun _ : Nat × Nat => True) (fun y => [(y.1, y.2, .row 1 (aS (cK m)))]) (fun y => .ms y.1 y.2 0 (cK m).length) := by
 refine aC Tryz.func61 rfl Tryz.ntmps61 rfl rfl rfl fun w0 R gs objsR hG hR => ?_
 obtain rfl := hR.inv0
 clear hR
 have hst := dA
 have hct := jA lo m hsm
 by_cases h0 : m.status = 0
 ·have h0' : ¬ m.status ≠ 0 := fun h => h h0
  cases hV : bX m with
  | false =>
    rw [show cK m = [] from if_neg (by rw [hV]; simp)]
    rw [hV] at hct
    unfold ai.tw at hct |-
    repeat' (first | refine W_ ?_ | refine aD ?_ | refine ab hG hst (hct) ?_ | refine c_ (fun hc => ?_) (fun hc => ?_) | refine g_ (fun hg => ?_) (fun hg => ?_))
    refine dT 2 1 (by omega) rfl fun ss => av x_ rfl (ss, 0) trivial rfl (.cons _ _ _ _ (.nil R)) pk_ (.tmp _ _ rfl) rfl
  | true =>
    obtain ⟨hs, n, p, hn, _, hp, ha, h1, h2⟩ := rl hV
    rw [show cK m = dc m p.at_ from by unfold cK; rw [if_pos ⟨hV, h0⟩, ha]]
    have hfr := sO (G := GL) lo m hsm hs n hn p hp ⟨h1, h2⟩
    rw [hV] at hct
    unfold ai.tw at hct hfr |-
    repeat' (first | refine W_ ?_ | refine aD ?_ | refine ab hG hst (hct) ?_ | ((with_reducible apply aG); rfl; kernel_rfl; (repeat (first | exact aF.nil | ((with_reducible apply aF.cons); rfl))); exact hG; exact hfr; exact .nil _; intro y hy; refine bm ?_) | refine c_ (fun hc => ?_) (fun hc => ?_) | refine g_ (fun hg => ?_) (fun hg => ?_))
    exact av x_ rfl y trivial rfl (.cons _ _ _ _ (.nil R)) pk_ (.tmp _ _ rfl) rfl
 ·rw [show cK m = [] from if_neg fun h => h0 h.2]
  unfold ai.tw
  repeat' (first | refine W_ ?_ | refine aD ?_ | refine c_ (fun hc => ?_) (fun hc => ?_) | refine g_ (fun hg => ?_) (fun hg => ?_))
  refine dT 2 1 (by omega) rfl fun ss => av x_ rfl (ss, 0) trivial rfl (.cons _ _ _ _ (.nil R)) pk_ (.tmp _ _ rfl) rfl
end Go.Proofs.YtofnnnpahglfdaaGreatDoor
