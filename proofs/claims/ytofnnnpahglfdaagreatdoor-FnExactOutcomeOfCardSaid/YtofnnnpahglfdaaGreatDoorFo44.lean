/- Part 44 of the proof: the texts OcP, OcA, OcB, OcC, OcL. -/
import Derived.Test.YtofnnnpahglfdaaGreatDoorFo39
import Derived.Test.YtofnnnpahglfdaaGreatDoorFo3
import Derived.Test.YtofnnnpahglfdaaGreatDoorFo38
import Derived.Test.YtofnnnpahglfdaaGreatDoorFo34
import Derived.Test.YtofnnnpahglfdaaGreatDoorFo41
import Derived.Test.YtofnnnpahglfdaaGreatDoorFo37
import Derived.Test.YtofnnnpahglfdaaGreatDoorFo23
import Derived.Test.YtofnnnpahglfdaaGreatDoorFo9
import Derived.Test.YtofnnnpahglfdaaGreatDoorFo7
import Derived.Test.YtofnnnpahglfdaaGreatDoorFo19
import Derived.Test.YtofnnnpahglfdaaGreatDoorFo29
import Derived.Test.YtofnnnpahglfdaaGreatDoorFo25
set_option linter.all false
set_option maxHeartbeats 4000000
set_option maxRecDepth 20000
namespace Go.Proofs.YtofnnnpahglfdaaGreatDoor
open Go Go.RowKit
structure TOc where
 st : Int
 va : ByteArray
 fa : ByteArray
 out : List ByteArray
 ti : Int
def ocC (o : TOc) (t : TV) : List TV := [.int .i64 o.st, .str o.va, .str o.fa, t, .int .i64 o.ti]
noncomputable def ocB (m : ai) : Bool := bX m && decide (m.status ≠ 0)
noncomputable def ocR (m : ai) : TOc := if ocB m = true then ⟨m.status, if m.status = 1 then aY m.store 3 m.value else ⟨#[]⟩, if m.status = 2 then m.fault else ⟨#[]⟩, m.store.output, m.store.ticks⟩ else ⟨0, ⟨#[]⟩, ⟨#[]⟩, [], 0⟩
theorem zz {m : ai} (h : m.small 1048576) : (ocR m).out.length <= 1048576 := by
 unfold ocR
 split
 ·exact h.2.1.2.2.1
 ·exact Nat.zero_le _
open Classical in
theorem aga {m : ai} (h : bX m = true) : bI m.store m.blocks.length m.value = true := (of_decide_eq_true h : abz m).value
theorem ac1 {B K s b n : Nat} {objs : aH} {o : TOc} (hn : o.out.length = n) (hm : (s, b, bj.row 1 (a8 o.out)) ∈ objs) : Fin B objs K (.agg (ocC o (.ms s b 0 n))) (.agg (ocC o (.sl K 1 (a8 o.out)))) := gR (.cons (.flat rfl) (.cons (.flat rfl) (.cons (.flat rfl) (.cons (ku hn hm) (.cons (.flat rfl) .nil)))))
theorem aa8 {B K : Nat} {objs : aH} {o : TOc} : Fin B objs K (.agg (ocC o (.sl B 1 (a8 o.out)))) (.agg (ocC o (.sl K 1 (a8 o.out)))) := gR (.cons (.flat rfl) (.cons (.flat rfl) (.cons (.flat rfl) (.cons (cj (fun _ => .cons (.flat rfl) .nil) o.out) (.cons (.flat rfl) .nil)))))
theorem abg {B K : Nat} {objs : aH} : Fin B objs K (.agg [.int .i64 0, .str ⟨#[]⟩, .str ⟨#[]⟩, .nils, .int .i64 0]) (.agg (ocC ⟨0, ⟨#[]⟩, ⟨#[]⟩, [], 0⟩ (.sl K 1 (a8 [])))) := gR (.cons (.flat rfl) (.cons (.flat rfl) (.cons (.flat rfl) (.cons (.nils 1) (.cons (.flat rfl) .nil)))))
theorem rx (f lo : Nat) (st : aJ) (nb : Int) (pok : acR st nb) (hs : st.small 1048576) (status : Int) (v : ad) (hv : bI st nb v = true) (fault : ByteArray) : Ct Tryz.prog GF 35 [.cp f (st.tw lo), .int .i64 status, .agg [.int .i64 v.kind, .int .i64 v.number, .str v.text], .str fault] (fun K => .agg (ocC ⟨status, if status = 1 then aY st 3 v else ⟨#[]⟩, fault, st.output, st.ticks⟩ (.sl K 1 (a8 st.output)))) := by
 refine am Tryz.func35 rfl Tryz.ntmps35 rfl rfl fun w0 _ hG => ?_
 have hst := ot
 have z1 := hs.2.2.1
 have hln := aZ st.output
 have hpr := ly (G := GF) hst f lo st nb pok hs 3 (by omega) v hv
 rw [show ((3 : Nat) : Int) = 3 from rfl] at hpr
 unfold aJ.tw at hpr |-
 repeat' (first | refine W_ ?_ | refine aD ?_ | (refine aj ?_; intro ss bb) | ((with_reducible apply mJ (id := 1) 14); kernel_rfl; kernel_rfl; kernel_rfl; rfl; (repeat (first | exact Cut.zero _ | apply Cut.succ))) | ((with_reducible apply m_q); exact ym_; rfl; exact acV) | ((with_reducible apply qL); rfl; (intro p; try dsimp only); (repeat (first | exact TB.nil _ | ((with_reducible apply TB.cons); rfl; rfl; (first | exact .nil _ | exact .put _ _ _ _ _ (.nil _) | exact .skip _ _ _ _ _ (.put _ _ _ _ _ (.nil _)) | exact .skip _ _ _ _ _ (.skip _ _ _ _ _ (.put _ _ _ _ _ (.nil _))) | (repeat (first | exact .nil _ | apply cy.put | apply cy.skip))); kernel_rfl))); rfl; kernel_rfl; kernel_rfl; exact acV) | ((with_reducible apply qI); rfl; rfl; kernel_rfl) | ((with_reducible apply aeO (n := 0)); (intro p; rfl); rfl; kernel_rfl; kernel_rfl; rfl; kernel_rfl; rfl; rfl; rfl; rfl) | ((with_reducible apply acZ); (intro p; rfl); (intro p; rfl); rfl; kernel_rfl; (intro p; rfl); (first | with_reducible assumption | exact aO _ | exact ao _ | exact aT _ | exact List.length_map _ | assumption | rfl); omega; exact ⟨by decide, ah_⟩; rfl; (focus (simp; done))) | (with_reducible refine DM.nil _ _ _ ?_))
 generalize ss = s2; generalize bb = b2
 intro p hp
 clear hp
 refine wN (objs' := ((p 13).a, (p 13).b, .box [.int .i64 0, .str ⟨#[]⟩, .str ⟨#[]⟩, .nils, .int .i64 0]) :: ((p 2).a, (p 7).b, .row 1 (a8 st.output)) :: (s2, b2, .box [.int .i64 0, .str ⟨#[]⟩, .str ⟨#[]⟩, .nils, .int .i64 0]) :: []) (by rw [show rN _ = [_, _] from rfl]; (try simp only [List.flatMap_cons, List.flatMap_nil, List.append_nil, List.cons_append, List.nil_append]); (try rfl)) ?_
 dsimp only [Nat.reduceAdd]
 generalize Yu.a (p 13) = s3
 generalize Yu.b (p 13) = b3
 generalize Yu.a (p 2) = so
 generalize Yu.b (p 7) = bo
 by_cases h1 : status = 1
 ·subst h1
  rw [if_pos rfl]
  repeat' (first | refine W_ ?_ | refine ac ?_ | refine ab hG hst (hpr) ?_)
  refine aE x_ rfl (.cell _ _ _ _ _ rfl mm_ (by kernel_rfl) (by kernel_rfl) (by kernel_rfl)) (fun _ => ?_)
  exact ac1 (o := ⟨1, aY st 3 v, fault, st.output, st.ticks⟩) rfl (by repeat (first | exact List.mem_cons_self | apply List.mem_cons_of_mem))
 ·rw [if_neg h1]
  repeat' (first | refine W_ ?_ | refine ac ?_)
  refine aE x_ rfl (.cell _ _ _ _ _ rfl mm_ (by kernel_rfl) (by kernel_rfl) (by kernel_rfl)) (fun _ => ?_)
  exact ac1 (o := ⟨status, ⟨#[]⟩, fault, st.output, st.ticks⟩) rfl (by repeat (first | exact List.mem_cons_self | apply List.mem_cons_of_mem))
theorem mA (lo : Nat) (m : ai) (hsm : m.small 1048576) : Ct Tryz.prog GF 8 [.agg (m.tw lo)] (fun K => .tup [.agg (ocC (ocR m) (.sl K 1 (a8 (ocR m).out))), .bool (ocB m)]) := by
 refine am Tryz.func8 rfl Tryz.ntmps8 rfl rfl fun w0 _ hG => ?_
 have hst := ot
 have hct := (j5 w0.heap.size lo m hsm).monoF (G2 := GF) fun _ h => h.1
 cases hV : bX m with
 | false =>
   have hB : ocB m = false := by unfold ocB; rw [hV]; rfl
   have hR : ocR m = ⟨0, ⟨#[]⟩, ⟨#[]⟩, [], 0⟩ := by unfold ocR; rw [if_neg (by rw [hB]; simp)]
   rw [hB, hR]
   rw [hV] at hct
   unfold ai.tw at hct |-
   repeat' (first | refine W_ ?_ | refine aD ?_ | (refine aj ?_; intro ss bb) | refine eW ?_ | refine ac ?_ | refine ab hG hst (hct) ?_)
   refine cZ x_ rfl (.cell _ _ _ _ _ rfl mm_ (by kernel_rfl) (by kernel_rfl) (by kernel_rfl)) (.tmp _ _ rfl) (fun _ => ?_) (fun _ => ?_)
   ·exact abg
   ·exact Fin.flat rfl
 | true =>
   rw [hV] at hct
   by_cases h0 : m.status = 0
   ·have hB : ocB m = false := by unfold ocB; rw [hV, h0]; rfl
    have hR : ocR m = ⟨0, ⟨#[]⟩, ⟨#[]⟩, [], 0⟩ := by unfold ocR; rw [if_neg (by rw [hB]; simp)]
    rw [hB, hR]
    unfold ai.tw at hct |-
    rw [h0] at hct |-
    repeat' (first | refine W_ ?_ | refine aD ?_ | (refine aj ?_; intro ss bb) | refine eW ?_ | refine ac ?_ | refine ab hG hst (hct) ?_)
    refine cZ x_ rfl (.cell _ _ _ _ _ rfl mm_ (by kernel_rfl) (by kernel_rfl) (by kernel_rfl)) (.tmp _ _ rfl) (fun _ => ?_) (fun _ => ?_)
    ·exact abg
    ·exact Fin.flat rfl
   ·have hB : ocB m = true := by unfold ocB; rw [hV]; simpa using h0
    have hR : ocR m = ⟨m.status, if m.status = 1 then aY m.store 3 m.value else ⟨#[]⟩, if m.status = 2 then m.fault else ⟨#[]⟩, m.store.output, m.store.ticks⟩ := by unfold ocR; rw [if_pos hB]
    rw [hB, hR]
    have pok := rE hV
    have hoc := rx 0 lo m.store m.blocks.length pok hsm.2.1 m.status m.value (aga hV)
    unfold aJ.tw at hoc
    unfold ai.tw at hct |-
    by_cases h2 : m.status = 2
    ·have hoc := hoc m.fault
     rw [if_pos h2]
     repeat' (first | refine W_ ?_ | refine aD ?_ | (refine aj ?_; intro ss bb) | refine ac ?_ | refine ab hG hst (hct) ?_ | refine fO hG hst (hoc) ?_)
     refine cZ x_ rfl (.cell _ _ _ _ _ rfl mm_ (by kernel_rfl) (by kernel_rfl) (by kernel_rfl)) (.tmp _ _ rfl) (fun _ => ?_) (fun _ => ?_)
     ·exact aa8
     ·exact Fin.flat rfl
    ·have hoc := hoc ⟨#[]⟩
     rw [if_neg h2]
     repeat' (first | refine W_ ?_ | refine aD ?_ | (refine aj ?_; intro ss bb) | refine ac ?_ | refine ab hG hst (hct) ?_ | refine fO hG hst (hoc) ?_)
     refine cZ x_ rfl (.cell _ _ _ _ _ rfl mm_ (by kernel_rfl) (by kernel_rfl) (by kernel_rfl)) (.tmp _ _ rfl) (fun _ => ?_) (fun _ => ?_)
     ·exact aa8
     ·exact Fin.flat rfl
theorem aaS (lo : Nat) (m : ai) (hV : bX m = true) (hsm : m.small 1048576) : CtM Tryz.prog GF 43 [.agg (m.tw lo)] [] (fun _ : Nat × Nat => True) (fun y => [(y.1, y.2, .row 1 (a8 m.store.output))]) (fun y => .agg (ocC ⟨m.status, if m.status = 1 then aY m.store 3 m.value else ⟨#[]⟩, if m.status = 2 then m.fault else ⟨#[]⟩, m.store.output, m.store.ticks⟩ (.ms y.1 y.2 0 m.store.output.length))) := by
 refine aC Tryz.func43 rfl Tryz.ntmps43 rfl rfl rfl fun w0 R gs objsR hG hR => ?_
 obtain rfl := hR.inv0
 clear hR
 have hst := ot
 have z1 := hsm.2.1.2.2.1
 have hln := aZ m.store.output
 have hpr := lA lo m.store m.blocks.length (rE hV) hsm.2.1 3 0 rfl m.value (aga hV)
 rw [show ((0 : Nat) : Int) = 0 from rfl] at hpr
 unfold aJ.tw at hpr
 unfold ai.tw
 repeat' (first | refine W_ ?_ | refine aD ?_ | (refine aj ?_; intro ss bb) | ((with_reducible apply mJ (id := 1) 12); kernel_rfl; kernel_rfl; kernel_rfl; rfl; (repeat (first | exact Cut.zero _ | apply Cut.succ))) | ((with_reducible apply m_q); exact ym_; rfl; exact acV) | ((with_reducible apply qL); rfl; (intro p; try dsimp only); (repeat (first | exact TB.nil _ | ((with_reducible apply TB.cons); rfl; rfl; (first | exact .nil _ | exact .put _ _ _ _ _ (.nil _) | exact .skip _ _ _ _ _ (.put _ _ _ _ _ (.nil _)) | exact .skip _ _ _ _ _ (.skip _ _ _ _ _ (.put _ _ _ _ _ (.nil _))) | (repeat (first | exact .nil _ | apply cy.put | apply cy.skip))); kernel_rfl))); rfl; kernel_rfl; kernel_rfl; exact acV) | ((with_reducible apply qI); rfl; rfl; kernel_rfl) | ((with_reducible apply aeO (n := 0)); (intro p; rfl); rfl; kernel_rfl; kernel_rfl; rfl; kernel_rfl; rfl; rfl; rfl; rfl) | ((with_reducible apply acZ); (intro p; rfl); (intro p; rfl); rfl; kernel_rfl; (intro p; rfl); (first | with_reducible assumption | exact aO _ | exact ao _ | exact aT _ | exact List.length_map _ | assumption | rfl); omega; exact ⟨by decide, ah_⟩; rfl; (focus (simp; done))) | (with_reducible refine DM.nil _ _ _ ?_))
 generalize ss = s2; generalize bb = b2
 intro p hp
 clear hp
 refine wN (objs' := ((p 11).a, (p 11).b, .box [.int .i64 0, .str ⟨#[]⟩, .str ⟨#[]⟩, .nils, .int .i64 0]) :: ((p 2).a, (p 6).b, .row 1 (a8 m.store.output)) :: (s2, b2, .box [.int .i64 0, .str ⟨#[]⟩, .str ⟨#[]⟩, .nils, .int .i64 0]) :: R) (by rw [show rN _ = [_, _] from rfl]; (try simp only [List.flatMap_cons, List.flatMap_nil, List.append_nil, List.cons_append, List.nil_append]); (try rfl)) ?_
 dsimp only [Nat.reduceAdd]
 generalize Yu.a (p 11) = s3
 generalize Yu.b (p 11) = b3
 generalize Yu.a (p 2) = so
 generalize Yu.b (p 6) = bo
 by_cases h1 : m.status = 1
 ·rw [if_pos h1, if_neg (by omega)]
  rw [h1]
  repeat' (first | refine W_ ?_ | refine ac ?_ | refine ab hG hst (hpr) ?_)
  exact av (t1 := .agg [.int .i64 1, .str (aY m.store 3 m.value), .str ⟨#[]⟩, .ms so bo 0 m.store.output.length, .int .i64 m.store.ticks]) x_ rfl (so, bo) trivial rfl (.cons _ _ _ _ (.nil R)) pk_ (.cell _ _ _ _ _ rfl mm_ (by kernel_rfl) (by kernel_rfl) (by kernel_rfl)) rfl
 ·rw [if_neg h1]
  by_cases h2 : m.status = 2
  ·rw [if_pos h2]
   rw [h2]
   repeat' (first | refine W_ ?_ | refine ac ?_)
   exact av (t1 := .agg [.int .i64 2, .str ⟨#[]⟩, .str m.fault, .ms so bo 0 m.store.output.length, .int .i64 m.store.ticks]) x_ rfl (so, bo) trivial rfl (.cons _ _ _ _ (.nil R)) pk_ (.cell _ _ _ _ _ rfl mm_ (by kernel_rfl) (by kernel_rfl) (by kernel_rfl)) rfl
  ·rw [if_neg h2]
   repeat' (first | refine W_ ?_ | refine ac ?_)
   exact av (t1 := .agg [.int .i64 m.status, .str ⟨#[]⟩, .str ⟨#[]⟩, .ms so bo 0 m.store.output.length, .int .i64 m.store.ticks]) x_ rfl (so, bo) trivial rfl (.cons _ _ _ _ (.nil R)) pk_ (.cell _ _ _ _ _ rfl mm_ (by kernel_rfl) (by kernel_rfl) (by kernel_rfl)) rfl
theorem f8 (lo : Nat) (m : ai) (hsm : m.small 1048576) : CtM Tryz.prog GF 10 [.agg (m.tw lo)] [] (fun _ : Nat × Nat => True) (fun y => [(y.1, y.2, .row 1 (a8 (ocR m).out))]) (fun y => .tup [.agg (ocC (ocR m) (.ms y.1 y.2 0 (ocR m).out.length)), .bool (ocB m)]) := by
 refine aC Tryz.func10 rfl Tryz.ntmps10 rfl rfl rfl fun w0 R gs objsR hG hR => ?_
 obtain rfl := hR.inv0
 clear hR
 have hst := ot
 have hct := (jA lo m hsm).monoF (G2 := GF) fun _ h => h.1
 by_cases hB : ocB m = true
 ·have hv : bX m = true /\ m.status ≠ 0 := by simpa [ocB] using hB
  have hR : ocR m = ⟨m.status, if m.status = 1 then aY m.store 3 m.value else ⟨#[]⟩, if m.status = 2 then m.fault else ⟨#[]⟩, m.store.output, m.store.ticks⟩ := by unfold ocR; rw [if_pos hB]
  rw [hB, hR]
  obtain ⟨hV, h0⟩ := hv
  rw [hV] at hct
  have hoc := aaS lo m hV hsm
  generalize (if m.status = 1 then aY m.store 3 m.value else ⟨#[]⟩) = va at hoc |-
  generalize (if m.status = 2 then m.fault else ⟨#[]⟩) = fa at hoc |-
  unfold ocC at hoc |-
  unfold ai.tw at hct hoc |-
  dsimp only at hoc |-
  repeat' (first | refine W_ ?_ | refine aD ?_ | (refine aj ?_; intro ss bb) | refine ac ?_ | refine ab hG hst (hct) ?_ | ((with_reducible apply aG); rfl; kernel_rfl; (repeat (first | exact aF.nil | ((with_reducible apply aF.cons); rfl))); exact hG; exact hoc; exact .nil _; rintro ⟨so, bo⟩ -; refine bm ?_))
  exact cD (t1 := .agg [.int .i64 m.status, .str va, .str fa, .ms so bo 0 m.store.output.length, .int .i64 m.store.ticks]) (t2 := .bool true) x_ rfl (so, bo) trivial rfl (.cons _ _ _ _ (.nil R)) pk_ (.cell _ _ _ _ _ rfl mm_ (by kernel_rfl) (by kernel_rfl) (by kernel_rfl)) (.tmp _ _ rfl) rfl
 ·have hB2 : ocB m = false := by simpa using hB
  have hR : ocR m = ⟨0, ⟨#[]⟩, ⟨#[]⟩, [], 0⟩ := by unfold ocR; rw [if_neg hB]
  rw [hB2, hR]
  unfold ocC
  by_cases h0 : m.status = 0
  ·unfold ai.tw at hct |-
   repeat' (first | refine W_ ?_ | refine aD ?_ | (refine aj ?_; intro ss bb) | refine eW ?_ | refine ac ?_)
   refine aae 3 1 (by decide) rfl fun s0 => ?_
   dsimp only [List.set]
   exact cD (t1 := .agg [.int .i64 0, .str ⟨#[]⟩, .str ⟨#[]⟩, .ms s0 0 0 0, .int .i64 0]) (t2 := .bool false) x_ rfl (s0, 0) trivial rfl (.cons _ _ _ _ (.nil R)) (.drop (.refl _)) (.cell _ _ _ _ _ rfl mm_ (by kernel_rfl) (by kernel_rfl) (by kernel_rfl)) (.tmp _ _ rfl) rfl
  ·have hV : bX m = false := by
     cases h : bX m with
     | false => rfl
     | true => exact absurd (show ocB m = true by unfold ocB; rw [h]; simpa using h0) hB
   rw [hV] at hct
   unfold ai.tw at hct |-
   repeat' (first | refine W_ ?_ | refine aD ?_ | (refine aj ?_; intro ss bb) | refine eW ?_ | refine ac ?_ | refine ab hG hst (hct) ?_)
   refine aae 3 1 (by decide) rfl fun s0 => ?_
   dsimp only [List.set]
   exact cD (t1 := .agg [.int .i64 0, .str ⟨#[]⟩, .str ⟨#[]⟩, .ms s0 0 0 0, .int .i64 0]) (t2 := .bool false) x_ rfl (s0, 0) trivial rfl (.cons _ _ _ _ (.nil R)) (.drop (.refl _)) (.cell _ _ _ _ _ rfl mm_ (by kernel_rfl) (by kernel_rfl) (by kernel_rfl)) (.tmp _ _ rfl) rfl
section
variable {G : World -> Prop}
theorem tc (hst : aB G) (l1 l2 : Nat) (o : TOc) (hn : o.out.length <= 1048576) : Ct Tryz.prog G 11 [.agg (ocC o (.sl l1 1 (a8 o.out))), .agg (ocC o (.sl l2 1 (a8 o.out)))] (fun _ => .bool true) := by
 refine am Tryz.func11 rfl Tryz.ntmps11 rfl rfl fun w0 _ hG => ?_
 unfold ocC
 repeat' (first | refine W_ ?_ | refine aD ?_ | refine ab hG hst (im l1 l2 o.out hn) ?_ | refine c_ (fun hc => ?_) (fun hc => ?_))
 all_goals first
   | (exfalso; simp at hc; done)
   | (exact r1_)
theorem oG (hst : aB G) (s b : Nat) (o : TOc) (k : Int) (hn : o.out.length <= 1048576) (hk : 0 <= k /\ k <= 1000000000000000) : CtM Tryz.prog G 14 [.agg (ocC o (.ms s b 0 o.out.length)), .int .i64 k] [(s, b, .row 1 (a8 o.out))] (fun _ : Unit => True) (fun _ => [(s, b, .row 1 (a8 (mkL bM aQ k o.out)))]) (fun _ => .int .i64 (kL aQ k o.out)) := by
 refine aC Tryz.func14 rfl Tryz.ntmps14 rfl rfl rfl fun w0 R gs objsR hG hR => ?_
 obtain rfl := hR.inv1
 clear hR
 have hct := fm hst s b o.out k hn hk
 unfold ocC
 repeat' (first | refine W_ ?_ | refine aD ?_ | ((with_reducible apply aG); rfl; kernel_rfl; (repeat (first | exact aF.nil | ((with_reducible apply aF.cons); rfl))); exact hG; exact hct; exact .cons _ _ _ _ (.nil _); rintro ⟨⟩ -; refine bm ?_))
 exact av x_ rfl () trivial rfl (.cons _ _ _ _ (.nil R)) pk_ (.tmp _ _ rfl) rfl
theorem rK (hst : aB G) (lo : Nat) (o : TOc) (k : Int) (hn : o.out.length <= 1048576) (hk : 0 <= k /\ k <= 1000000000000000) : Ct Tryz.prog G 15 [.agg (ocC o (.sl lo 1 (a8 (mkL bM aQ k o.out)))), .int .i64 k] (fun _ => .int .i64 (kL aQ k o.out)) := by
 refine am Tryz.func15 rfl Tryz.ntmps15 rfl rfl fun w0 _ hG => ?_
 have h := rq hst lo o.out k hn hk
 have hki := jm (nx := aQ) (l := o.out) (k := k) (dN _)
 unfold ocC
 generalize kL aQ k o.out = q at h hki |-
 repeat' (first | refine W_ ?_ | refine aD ?_ | refine ab hG hst (h) ?_)
 all_goals first
   | (exact r1_)
   | (exfalso; simp at hc; done)
end
theorem aff (o : TOc) (v : Bool) : ∀ y : Nat × Nat, True -> (∀ s b r, (s, b, r) ∈ [(y.1, y.2, bj.row 1 (a8 o.out))] -> kK [(y.1, y.2, bj.row 1 (a8 o.out))] r) /\ jk [(y.1, y.2, bj.row 1 (a8 o.out))] (.tup [.agg (ocC o (.ms y.1 y.2 0 o.out.length)), .bool v]) := fun y _ =>
 ⟨fun s b r h => by
   simp only [List.mem_singleton, Prod.mk.injEq] at h
   obtain ⟨_, _, rfl⟩ := h
   exact rJ (sB _), .tup _ fun t ht => by
   simp only [List.mem_cons, List.not_mem_nil, or_false] at ht
   rcases ht with rfl | rfl
   ·refine .agg _ fun t ht => ?_
    simp only [ocC, List.mem_cons, List.not_mem_nil, or_false] at ht
    rcases ht with rfl | rfl | rfl | rfl | rfl
    ·exact .flat _ rfl
    ·exact .flat _ rfl
    ·exact .flat _ rfl
    ·exact .ms _ _ _ _ _ _ List.mem_cons_self
    ·exact .flat _ rfl
   ·exact .flat _ rfl⟩
theorem nU (o : TOc) {objs : aH} {s b n : Nat} {l : List ByteArray} (hm : (s, b, bj.row 1 (a8 l)) ∈ objs) (hl : l.length = n) : bU objs (.agg [.int .i64 o.st, .str o.va, .str o.fa, .ms s b 0 n, .int .i64 o.ti]) (.agg [.int .i64 o.st, .str o.va, .str o.fa, .sl 0 1 (a8 l), .int .i64 o.ti]) := by
 have h : o7 objs [.int .i64 o.st, .str o.va, .str o.fa, .ms s b 0 n, .int .i64 o.ti] [.int .i64 o.st, .str o.va, .str o.fa, .sl 0 1 (a8 l), .int .i64 o.ti] := .cons (.same _) (.cons (.same _) (.cons (.same _) (.cons (.msAll hm (by rw [aZ]; exact hl)) (.cons (.same _) .nil))))
 exact .agg _ _ h.1 h.2
theorem adq (a r b c : Nat × Nat × bj) (B : aH) : de (a :: r :: b :: c :: B) (a :: r :: b :: (B ++ [c])) := .perm (by
 have h : (B ++ [c]).Perm (c :: B) := List.perm_append_comm
 exact (((h.cons b).cons r).cons a).symm)
theorem jP (x : ai) (hb : x.small 9223372036854775807) : Ct Tryz.prog GF 3 [.agg (x.tw 0)] (fun _ => .bool true) := by
 have hst := ot
 have hto := fun hx => nH hst 0 x hx
 have htw := fun hx => jY hst 0 x hx
 refine am Tryz.func3 rfl Tryz.ntmps3 rfl rfl fun w0 _ hG => ?_
 have hsp := fun hx => mA w0.heap.size x hx
 have him := fun (hx : x.small 1048576) => f8 0 x hx
 have him2 := fun (hx : x.small 1048576) => f8 w0.heap.size x hx
 have heq := fun hx => pT hst 0 w0.heap.size x hx
 have hmk := fun (hx : x.small 1048576) y hy => kr hst x y hy hx 1 (by omega)
 have hsm := fun (hx : x.small 1048576) => zz hx
 have hvw : ∀ {objs : aH} {y : oO}, imI x y -> (∀ o ∈ imO x y, o ∈ objs) -> bU objs (.agg (imC x y)) (.agg (x.tw 0)) := fun h1 h2 => aaq h1 h2
 have hnk := fun hx => p9 (x := x) hx 1
 have hsz := qn hst 0 x 1048576 (by omega) hb
 generalize ocR x = o at hsp him him2 hsm
 generalize ocB x = vb at hsp him him2
 have hnew := aff o vb
 have hsl := aZ o.out
 unfold ai.tw at hto htw hsp him him2 heq hvw hsz |-
 unfold ocC at hsp him him2 hnew
 repeat' (first | refine H_ 3 ?_ | refine aD ?_ | ((with_reducible apply aG); rfl; kernel_rfl; (repeat (first | exact aF.nil | ((with_reducible apply aF.cons); rfl))); exact hG; exact hsz; exact .nil _; intro y hy; refine bD ?_))
 refine ⟨?_⟩
 by_cases hneg : y < 0
 ·repeat' refine W_ ?_
  exact r1_
 have hx := hy.2.2 (by omega)
 replace hto := hto hx
 replace htw := htw hx
 replace hsp := hsp hx
 replace him := him hx
 replace him2 := him2 hx
 replace heq := heq hx
 replace hnk := hnk hx
 replace hmk := hmk hx
 replace hsm := hsm hx
 have hqs := fun l1 l2 => tc hst l1 l2 o hsm
 unfold ocC at hqs
 clear hb hy hsz
 repeat' (first | refine H_ 6 ?_ | (refine aj ?_; intro ss bb) | refine ac ?_ | refine ab hG hst (hto) ?_ | refine ab hG hst (hsp) ?_)
 refine ⟨?_⟩
 generalize ss = s4; generalize bb = b4
 repeat' (first | refine H_ 7 ?_ | ((with_reducible apply aG); rfl; kernel_rfl; (repeat (first | exact aF.nil | ((with_reducible apply aF.cons); rfl))); exact hG; exact htw; exact .nil _; intro y hy) | (refine aj ?_; intro ss bb) | refine ac ?_)
 refine ⟨?_⟩
 generalize ss = s5; generalize bb = b5
 have hl1 := hmk y hy
 clear hmk
 unfold imC at hl1 hvw
 repeat' (first | refine H_ 8 ?_ | (refine aj ?_; intro ss bb) | refine ac ?_ | ((with_reducible apply dX); rfl; kernel_rfl; exact hG; exact hst; exact him; ((with_reducible apply ca.cons); rfl; exact hvw hy (fun o h => List.mem_cons_of_mem _ (List.mem_append_left _ h))); (repeat (first | exact ca.nil | ((with_reducible apply ca.cons); rfl; exact bU.same _))); exact hnew; rintro ⟨sg, bg⟩ -; refine bm ?_))
 refine ⟨?_⟩
 generalize ss = s7; generalize bb = b7
 rename_i sg bg
 refine adZ (adq _ _ _ _ _) ?_
 repeat' (first | refine HV_ 10 ?_ | ((with_reducible apply lH); rfl; kernel_rfl; exact hG; exact hst; exact hqs 0 w0.heap.size; ((with_reducible apply ca.cons); rfl; exact nU o (List.mem_cons_of_mem _ List.mem_cons_self) rfl); (repeat (first | exact ca.nil | ((with_reducible apply ca.cons); rfl; exact bU.same _)))) | refine c_ (fun hc => ?_) (fun hc => ?_))
 all_goals first
   | (exfalso; simp at hc; done)
   | skip
 refine ⟨?_⟩
 repeat' (first | refine HV_ 13 ?_ | refine ae hG hst (hto) ?_ | ((with_reducible apply aaw); rfl; kernel_rfl; exact hG; exact hst; exact heq; ((with_reducible apply ca.cons); rfl; exact hvw hy fun o h => List.mem_cons_of_mem _ (List.mem_cons_of_mem _ (List.mem_cons_of_mem _ (List.mem_cons_of_mem _ h)))); (repeat (first | exact ca.nil | ((with_reducible apply ca.cons); rfl; exact bU.same _)))))
 all_goals first
   | (exfalso; simp at hc; done)
   | skip
 refine ⟨?_⟩
 repeat' refine W_ ?_
 refine jM (.perm (List.perm_append_comm (l₁ := imO x y) (l₂ := [_, _, _, _]))) ?_
 repeat' (first | refine HV_ 16 ?_ | ((with_reducible apply aG); rfl; kernel_rfl; (repeat (first | exact aF.nil | ((with_reducible apply aF.cons); rfl))); exact hG; exact hl1; exact .app _ _; rintro ⟨⟩ -; refine cI (objs' := _ :: _ :: _ :: _ :: imO (ru 1 x) y) (.perm (List.perm_append_comm (l₁ := [_, _, _, _]) (l₂ := imO (ru 1 x) y))) ?_) | ((with_reducible apply lH); rfl; kernel_rfl; exact hG; exact hst; exact hqs 0 w0.heap.size; ((with_reducible apply ca.cons); rfl; exact nU o (List.mem_cons_of_mem _ List.mem_cons_self) rfl); (repeat (first | exact ca.nil | ((with_reducible apply ca.cons); rfl; exact bU.same _)))) | refine c_ (fun hc => ?_) (fun hc => ?_))
 all_goals first
   | (exfalso; simp at hc; done)
   | skip
 refine ⟨?_⟩
 have hmS := oG hst sg bg o 1 hsm (by omega)
 have hhS := rK hst 0 o 1 hsm (by omega)
 have hkS := jm (nx := aQ) (l := o.out) (k := 1) (dN _)
 have hml : (mkL bM aQ 1 o.out).length = o.out.length := da _ _
 unfold ocC at hmS hhS
 generalize kL aQ 1 o.out = kq at hmS hhS hkS
 generalize mkL bM aQ 1 o.out = ms at hmS hhS hml
 repeat' refine W_ ?_
 refine jM (.perm (List.Perm.swap _ _ _)) ?_
 repeat' (first | refine H_ 18 ?_ | ((with_reducible apply aG); rfl; kernel_rfl; (repeat (first | exact aF.nil | ((with_reducible apply aF.cons); rfl))); exact hG; exact hmS; exact .cons _ _ _ _ (.nil _); rintro ⟨⟩ -; refine bm ?_; refine cI (.perm (List.Perm.swap _ _ _)) ?_))
 refine ⟨?_⟩
 repeat' (first | refine H_ 24 ?_ | ((with_reducible apply lH); rfl; kernel_rfl; exact hG; exact hst; exact hhS; ((with_reducible apply ca.cons); rfl; exact nU o (List.mem_cons_of_mem _ List.mem_cons_self) hml); (repeat (first | exact ca.nil | ((with_reducible apply ca.cons); rfl; exact bU.same _)))))
 all_goals first
   | (exfalso; simp at hc; done)
   | skip
 refine ⟨?_⟩
 repeat' (first | refine H_ 25 ?_ | (refine aj ?_; intro ss bb) | refine ac ?_ | refine ab hG hst (hto) ?_ | ((with_reducible apply dX); rfl; kernel_rfl; exact hG; exact hst; exact him2; ((repeat (first | exact ca.nil | ((with_reducible apply ca.cons); rfl; (first | with_reducible exact bU.same _ | ((with_reducible apply bU.msAll); (repeat (first | with_reducible exact mh | with_reducible refine mt ?_)); (first | with_reducible assumption | exact aO _ | exact ao _ | exact aT _ | exact List.length_map _ | assumption | rfl)) | ((with_reducible apply dF); (repeat (first | with_reducible exact mh | with_reducible refine mt ?_)); (first | with_reducible assumption | exact aO _ | exact ao _ | exact aT _ | exact List.length_map _ | assumption | rfl)) | ((with_reducible apply bU.cut); exact bU.cp0 _ _; rfl)))))); exact hnew; rintro ⟨sh, bh⟩ -; refine bm ?_))
 refine ⟨?_⟩
 generalize ss = s9; generalize bb = b9
 repeat' (first | refine HV_ 28 ?_ | ((with_reducible apply lH); rfl; kernel_rfl; exact hG; exact hst; exact hqs 0 w0.heap.size; ((with_reducible apply ca.cons); rfl; exact nU o (List.mem_cons_of_mem _ List.mem_cons_self) rfl); (repeat (first | exact ca.nil | ((with_reducible apply ca.cons); rfl; exact bU.same _)))) | refine c_ (fun hc => ?_) (fun hc => ?_))
 all_goals first
   | (exfalso; simp at hc; done)
   | skip
 refine ⟨?_⟩
 repeat' (first | refine W_ ?_ | ((with_reducible apply lH); rfl; kernel_rfl; exact hG; exact hst; exact hhS; ((with_reducible apply ca.cons); rfl; exact nU o (List.mem_cons_of_mem _ (List.mem_cons_of_mem _ (List.mem_cons_of_mem _ List.mem_cons_self))) hml); (repeat (first | exact ca.nil | ((with_reducible apply ca.cons); rfl; exact bU.same _)))))
 all_goals first
   | (exact r1_)
   | (exfalso; simp at hc; done)
theorem eZ (w : World) (t : PT) (x : ai) (hat : eH t x) (hsee : dM w (· < w.heap.size) t) (hx : x.sane) (hm : qs w) (ht : acX w) : Calls Tryz.prog 3 #[.agg t.cells.toArray] w fun e w' => e = .returned (.bool true) /\ Below w.heap.size w w' := by
 have h0 : 0 < w.heap.size := by
   obtain ⟨m, hm⟩ := hm
   have := World.block_lt_of_cell? w _ hm
   omega
 have hok := ab7 w _ _ hsee
 have hsm := nT hat hsee hx
 rw [sX hat] at hok
 refine (jP x hsm w _ h0 ⟨hm, ht⟩ rfl ?_).mono ?_
 ·intro i t v h1 h2
  match i, h1, h2 with
  | 0, h1, h2 =>
    cases h1; cases h2
    exact .agg _ _ hok.2.1 (by simpa using hok.1) (fun i t v ht hv => hok.2.2 i t v ht (by simpa using hv))
 ·rintro e w' ⟨v, rfl, hb, hr⟩
  have := (hr 0 (Nat.zero_le _)).bool_inv
  subst this
  exact ⟨rfl, hb⟩
end Go.Proofs.YtofnnnpahglfdaaGreatDoor
