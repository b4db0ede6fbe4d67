/- Part 35 of the proof: the texts ImS. -/
import Derived.Test.YtofnnnpahglfdaaGreatDoorFo32
import Derived.Test.YtofnnnpahglfdaaGreatDoorFo27
import Derived.Test.YtofnnnpahglfdaaGreatDoorFo12
set_option linter.all false
set_option maxHeartbeats 8000000
set_option maxRecDepth 20000
namespace Go.Proofs.YtofnnnpahglfdaaGreatDoor
open Go Go.RowKit
def acS (l : List Int) (v : Int) : Int := if v ∈ l then (l.findIdx (fun y => decide (y = v)) : Nat) else -1
theorem adN {l : List Int} {v : Int} {i : Nat} (h : i < l.length) (e : l[i] = v) (hb : ∀ y ∈ l.take i, y ≠ v) : acS l v = i := by
 unfold acS
 rw [if_pos (e ▸ List.getElem_mem h), (List.findIdx_eq (p := fun y => decide (y = v)) h).2 ⟨by simp [e], fun j hj => ?_⟩]
 refine decide_eq_false (hb _ ?_)
 exact List.mem_take_iff_getElem.2 ⟨j, by omega, rfl⟩
theorem aaZ {l : List Int} {v : Int} (h : ∀ y ∈ l, y ≠ v) : acS l v = -1 := by
 unfold acS
 rw [if_neg fun hm => h v hm rfl]
theorem acb (l : List Int) (v : Int) : decide (acS l v ≥ 0) = decide (v ∈ l) := by
 unfold acS
 split <;> simp_all
section
variable {G : World -> Prop}
theorem oo (lo : Nat) (l : List Int) (v : Int) (hn : l.length <= 1000000000) : Ct Tryz.prog G 270 [.sl lo 1 (aS l), .int .i64 v] (fun _ => .int .i64 (acS l v)) := by
 refine am Tryz.func270 rfl Tryz.ntmps270 rfl rfl fun w0 _ hG => ?_
 have hlen := ao l
 repeat' refine W_ ?_
 apply ak (X := Nat) [0, 1, 7] (fun i => [(8, .int .i64 (i : Int))]) (fun _ => []) (fun i => i <= l.length /\ ∀ y ∈ l.take i, y ≠ v) (fun i => l.length - i) 0 ⟨Nat.zero_le _, by simp⟩
 exact kp_; exact nw_
 ·exact .refl _
 rintro i ⟨hi, hs⟩
 try dsimp only
 by_cases hlt : i < l.length
 ·have hrow := jW hlt
  have hta := aV (p := fun y => y ≠ v) hlt hs
  have htr : l[i] = v -> acS l v = i := fun e => adN hlt e hs
  generalize l[i] = x at hrow hta htr
  by_cases hx : x = v
  ·rw [htr hx]
   have hx2 : v = x := hx.symm
   repeat' refine W_ ?_
   exact r1_
  ·have hx2 : ¬ v = x := fun e => hx e.symm
   repeat' refine W_ ?_
   exact ag (i + 1) ⟨by omega, hta hx⟩ (by omega) (.of _ nw_ od_ pk_)
 ·rw [List.take_of_length_le (by omega)] at hs
  rw [aaZ hs]
  repeat' refine W_ ?_
  exact r1_
theorem k7 (hst : aB G) (lo : Nat) (l : List Int) (v : Int) (hn : l.length <= 1000000000) : Ct Tryz.prog G 202 [.sl lo 1 (aS l), .int .i64 v] (fun _ => .bool (decide (v ∈ l))) := by
 rw [<- acb]
 refine am Tryz.func202 rfl Tryz.ntmps202 rfl rfl fun w0 _ hG => ?_
 repeat' (first | refine W_ ?_ | refine ab hG hst (oo lo l v hn) ?_)
 exact r1_
end
open Classical in
theorem aas {m : ai} {a : Int} : jC m a = true ↔ dk m a := decide_eq_true_iff
def ab0 (m : ai) : Prop := inR m.processes.length 1 20 = true /\ inR m.now 0 ((m.processes.length : Int) - 1) = true /\ (∀ p ∈ m.processes, inR p.at_ (-1) ((m.contexts.length : Int) - 1) = true) /\ tB m (nl m ++ m.ready ++ vG m)
open Classical in
noncomputable def qZ (m : ai) : Bool := decide (ab0 m)
open Classical in
theorem aeP {m : ai} (h : ¬ ab0 m) : qZ m = false := decide_eq_false h
open Classical in
theorem ac6 {m : ai} (h : ab0 m) : qZ m = true := decide_eq_true h
theorem aep {l2 : Nat} {l : List aA} {i : Nat} (h : i < l.length) {ds : List Int} (hd : dps l[i] = ds) : ((l.take i).map fun x => [TV.sl l2 1 (aS (dps x))]) ++ [[TV.sl l2 1 (aS ds)]] = (l.take (i + 1)).map fun x => [TV.sl l2 1 (aS (dps x))] := by
 rw [ed h, List.map_append, <- hd]; rfl
theorem pi (lo : Nat) (m : ai) (hsm : m.small 1048576) (hdep : ∀ c ∈ m.base.codes, jI c.instrs = true /\ ∃ ds, bP c.instrs = some ds /\ ds.length = c.instrs.length) (hsd : fE m)
   (hplain : ∀ (i : Nat) (h : i < m.contexts.length), m.contexts[i].mark = 0 -> (0 <= m.contexts[i].code /\ m.contexts[i].code < m.base.codes.length) /\ 0 <= m.contexts[i].pc) (h800 : m.store.objects.length <= 800) (hsem : ∀ o ∈ m.store.objects, o.kind = 3 -> 1 <= o.numbers.length) : Ct Tryz.prog GL 122 [.agg (m.tw lo)] (fun _ => .bool (qZ m)) := by
 refine am Tryz.func122 rfl Tryz.ntmps122 rfl rfl fun w0 _ hG => ?_
 have hst := dA
 have hF := aeP (m := m)
 have hT := ac6 (m := m)
 have hlx := ap.len lo m.contexts
 have hlo := ay.len lo m.store.objects
 have hlp := au.len lo m.processes
 have hlc := aA.len lo m.base.codes
 have hxl := hsm.2.2.2.1.1
 have hpl := hsm.2.2.2.2.1.1
 have hrl := hsm.2.2.2.2.2.1
 have hcl := hsm.1.2.1.1
 have hrl2 := ao m.ready
 have hnum : ∀ o ∈ m.store.objects, o.numbers.length <= 1048576 := fun o h => (hsm.2.1.2.1.2 o h).2
 have hsl := fun (i : Nat) (h : i <= m.store.objects.length) => vZ h hnum
 have hnl := vU m
 have hnow : nl m = if m.status = 0 then [m.now] else [] := rfl
 have hW := fun a => abN lo w0.heap.size m hsm hdep hsd hplain a
 have k1 := aN (G := GL) m.processes.length 1 20
 have k2 := aN (G := GL) m.now 0 ((m.processes.length : Int) - 1)
 have hcl1 := nh (G := GL) lo m.ready hrl
 have hsc := fun (i : Nat) (h : i < m.base.codes.length) => hsm.1.2.1.2 _ (List.getElem_mem h)
 have hdp := fun (i : Nat) (h : i < m.base.codes.length) => hdep _ (List.getElem_mem h)
 clear hsm hdep hplain hsd
 unfold ai.tw at hW |-
 cases h1 : inR m.processes.length 1 20
 case false =>
   rw [hF fun h => by have := h.1; rw [h1] at this; cases this]
   rw [h1] at k1
   repeat' (first | refine W_ ?_ | refine aD ?_ | refine ab hG hst (k1) ?_)
   exact r1_
 rw [h1] at k1
 have h1' := of_decide_eq_true h1
 rw [show (m.processes.length : Int) - 1 = ((m.processes.length - 1 : Nat) : Int) by omega] at k2
 cases h2 : inR m.now 0 ((m.processes.length - 1 : Nat) : Int)
 case false =>
   rw [hF fun h => by
     have := h.2.1
     rw [show (m.processes.length : Int) - 1 = ((m.processes.length - 1 : Nat) : Int) by omega, h2] at this; cases this]
   rw [h2] at k2
   repeat' (first | refine W_ ?_ | refine aD ?_ | refine ab hG hst (k1) ?_ | refine ab hG hst (k2) ?_)
   exact r1_
 rw [h2] at k2
 rw [show ((m.processes.length - 1 : Nat) : Int) = (m.processes.length : Int) - 1 by omega] at h2
 repeat' (first | refine W_ ?_ | refine aD ?_ | refine ab hG hst (k1) ?_ | refine ab hG hst (k2) ?_)
 apply ak (X := Nat) [1, 31, 32] (fun i => [(33, .int .i64 (i : Int))]) (fun _ => []) (fun i => i <= m.processes.length /\ ∀ p ∈ m.processes.take i, inR p.at_ (-1) ((m.contexts.length : Int) - 1) = true) (fun i => m.processes.length - i) 0 ⟨Nat.zero_le _, by simp⟩
 exact kp_; exact nw_
 ·exact .refl _
 rintro i ⟨hi, hall⟩
 try dsimp only
 by_cases hlt : i < m.processes.length
 ·have hrow := qS (lo := lo) hlt
  have hta := aV (p := fun p => inR p.at_ (-1) ((m.contexts.length : Int) - 1) = true) hlt hall
  have hbad : inR m.processes[i].at_ (-1) ((m.contexts.length : Int) - 1) = false -> qZ m = false := fun hB => hF fun h => by have := h.2.2.1 _ (List.getElem_mem hlt); rw [hB] at this; cases this
  generalize m.processes[i] = p at hrow hta hbad
  have hct := aN (G := GL) p.at_ (-1) ((m.contexts.length : Int) - 1)
  have hcs : (m.contexts.length : Int) - 1 = ((m.contexts.length - 1 : Nat) : Int) \/ ¬ 1 <= m.contexts.length := by omega
  cases hB : inR p.at_ (-1) ((m.contexts.length : Int) - 1)
  ·rw [hbad hB]
   rw [hB] at hct
   rcases hcs with hcs | hcs
   ·rw [hcs] at hct
    have hcs1 : 1 <= m.contexts.length := by omega
    repeat' (first | refine W_ ?_ | (refine aj ?_; intro ss bb) | refine ac ?_ | refine ab hG hst (hct) ?_)
    exact r1_
   ·repeat' (first | refine W_ ?_ | (refine aj ?_; intro ss bb) | refine ac ?_ | refine ab hG hst (hct) ?_)
    exact r1_
  ·rw [hB] at hct
   rcases hcs with hcs | hcs
   ·rw [hcs] at hct
    have hcs1 : 1 <= m.contexts.length := by omega
    repeat' (first | refine W_ ?_ | (refine aj ?_; intro ss bb) | refine ac ?_ | refine ab hG hst (hct) ?_)
    exact ag (i + 1) ⟨by omega, hta hB⟩ (by omega) (.of _ nw_ od_ pk_)
   ·repeat' (first | refine W_ ?_ | (refine aj ?_; intro ss bb) | refine ac ?_ | refine ab hG hst (hct) ?_)
    exact ag (i + 1) ⟨by omega, hta hB⟩ (by omega) (.of _ nw_ od_ pk_)
 obtain rfl : i = m.processes.length := by omega
 rw [List.take_of_length_le (Nat.le_refl _)] at hall
 have hFl : ¬ tB m (m.ready ++ nl m ++ vG m) -> qZ m = false := fun h => hF fun k => h (pD.2 k.2.2.2)
 have hTl : tB m (m.ready ++ nl m ++ vG m) -> qZ m = true := fun h => hT ⟨h1, h2, hall, pD.1 h⟩
 clear hF hT hall hlt hi k1 k2
 generalize qZ m = V at hFl hTl |-
 repeat' (first | refine H_ 10 ?_ | ((with_reducible apply aG); rfl; kernel_rfl; (repeat (first | exact aF.nil | ((with_reducible apply aF.cons); rfl))); exact hG; exact hcl1; exact .nil _; rintro ⟨s5, b5⟩ -; refine bm ?_))
 refine ⟨?_⟩
 apply fh (X := Nat) [1] (fun b => [(5, .ms s5 b 0 (m.ready ++ nl m).length)]) (fun b => [(s5, b, .row 1 (aS (m.ready ++ nl m)))]) (fun _ => True)
 case hk => (repeat (first | exact jq.nil | (apply jq.cons; rfl)))
 ·rw [hnow]
  have hap : aS m.ready ++ [[.int .i64 m.now]] = aS (m.ready ++ [m.now]) := by simp [aS]
  by_cases hs : m.status = 0
  ·rw [if_pos hs, show (m.ready ++ [m.now]).length = m.ready.length + 1 by simp]
   repeat' (first | refine W_ ?_ | refine cH ?_ | ((with_reducible apply ck); rfl; rfl; rfl; kernel_rfl; (repeat (first | with_reducible exact mh | with_reducible refine mt ?_)); exact hrl2; exact (rfl : _ = 1); omega; exact hap; (intro bq; (repeat (first | with_reducible exact Upd.head _ | with_reducible apply Upd.tail))); intro bb))
   exact dV _ trivial (.of _ nw_ od_ pk_)
  ·rw [if_neg hs, List.append_nil]
   repeat' refine W_ ?_
   exact dV b5 trivial (.of _ nw_ od_ pk_)
 clear hnow hcl1
 intro b6 _
 generalize hN0 : m.ready ++ nl m = N0 at hFl hTl |-
 have hN0l : N0.length <= 1048577 := by rw [<- hN0, List.length_append]; omega
 repeat' refine W_ ?_
 apply ak (X := Nat × Nat × List Int) [1, 59, 60] (fun x => [(61, .int .i64 (x.1 : Int)), (5, .ms s5 x.2.1 0 x.2.2.length)]) (fun x => [(s5, x.2.1, .row 1 (aS x.2.2))]) (fun x => x.1 <= m.store.objects.length /\ x.2.2 = N0 ++ (m.store.objects.take x.1).flatMap wB) (fun x => m.store.objects.length - x.1) (0, b6, N0) ⟨Nat.zero_le _, by simp⟩
 exact kp_; exact nw_
 ·exact .refl _
 rintro ⟨i, b7, A⟩ ⟨hi, hA⟩
 dsimp only at hi hA |-
 have hAl : A.length <= 1 + 1048576 + i * 1048576 := by
   rw [hA, List.length_append]
   have := hsl i hi
   omega
 by_cases hlt : i < m.store.objects.length
 ·have hrow := ld (lo := lo) hlt
  have hsn := oI hlt
  have hol := hnum _ (List.getElem_mem hlt)
  have hse := hsem _ (List.getElem_mem hlt)
  have hA2 : A ++ wB m.store.objects[i] = N0 ++ (m.store.objects.take (i + 1)).flatMap wB := by rw [hsn, hA, List.append_assoc]
  clear hsn hsem hsl hnum hW
  generalize m.store.objects[i] = o at hrow hol hse hA2
  obtain ⟨ok, oc, fs, ns⟩ := o
  dsimp only at hrow hol hse
  unfold wB at hA2
  dsimp only at hA2
  have hnl2 := ao ns
  by_cases hk : ok = 3
  ·rw [if_pos hk] at hA2
   have h1 := hse hk
   have hdr := tW ns 1
   have hdl := ao (ns.drop 1)
   have hdl2 : (ns.drop 1).length <= 1048576 := by rw [List.length_drop]; omega
   have hap := q6 A (ns.drop 1)
   repeat' (first | refine W_ ?_ | (refine aj ?_; intro ss bb) | refine ac ?_ | refine aeD ?_ | ((with_reducible apply ck); rfl; rfl; rfl; kernel_rfl; (repeat (first | with_reducible exact mh | with_reducible refine mt ?_)); exact ao _; exact hdl; omega; exact hap; (intro bq; (repeat (first | with_reducible exact Upd.head _ | with_reducible apply Upd.tail))); intro bb))
   rw [<- List.length_append]
   exact ag (i + 1, _, A ++ ns.drop 1) ⟨by dsimp only; omega, hA2⟩ (by dsimp only; omega) (.of _ nw_ od_ pk_)
  ·rw [if_neg hk, List.append_nil] at hA2
   repeat' (first | refine W_ ?_ | (refine aj ?_; intro ss bb) | refine ac ?_)
   exact ag (i + 1, b7, A) ⟨by dsimp only; omega, hA2⟩ (by dsimp only; omega) (.of _ nw_ od_ pk_)
 obtain rfl : i = m.store.objects.length := by omega
 rw [List.take_of_length_le (Nat.le_refl _)] at hA
 rw [show N0 ++ vG m = A from hA.symm] at hFl hTl
 clear hA hN0 hsl hsem hnum hlt hi
 replace hAl : A.length <= 900000000 := by omega
 repeat' refine H_ 18 ?_
 refine ⟨?_⟩
 refine nf (t := 5) rfl (ao _) (.head _) ?_
 have hll := ao A
 repeat' (first | refine W_ ?_ | ((with_reducible apply o9 (n := 0)); rfl; rfl; kernel_rfl; kernel_rfl; rfl; kernel_rfl; rfl; rfl; rfl; rfl; intro ss bb))
 generalize ss = s8; generalize bb = b8
 apply ak (X := Nat × Nat) [1, 5, 77, 78] (fun x => [(79, .int .i64 (x.1 : Int)), (8, .ms s8 x.2 0 x.1)]) (fun x => [(s8, x.2, .row 1 ((m.base.codes.take x.1).map fun c => [TV.sl w0.heap.size 1 (aS (dps c))]))]) (fun x => x.1 <= m.base.codes.length) (fun x => m.base.codes.length - x.1) (0, b8) (Nat.zero_le _)
 exact kp_; exact nw_
 ·exact .refl _
 rintro ⟨i, b9⟩ hi
 dsimp only at hi |-
 by_cases hlt : i < m.base.codes.length
 ·have hrow := bL (lo := lo) hlt
  obtain ⟨_, ds, hds, _⟩ := hdp i hlt
  have hsn := aep (l2 := w0.heap.size) hlt (ada hds)
  have hsz := hsc i hlt
  have hrlen : ((m.base.codes.take i).map fun c => [TV.sl w0.heap.size 1 (aS (dps c))]).length = i := by rw [List.length_map, List.length_take]; omega
  clear hW hdp hsc
  generalize m.base.codes[i] = c at hrow hds hsz
  obtain ⟨xb, xp, xs, is⟩ := c
  dsimp only at hrow hds
  have hsd := jt hst afH lo xb xp xs is hsz.1 hsz.2
  rw [ki lo] at hsd
  unfold dR dO at hsd
  rw [hds] at hsd
  rw [Option.getD_some, Option.isSome_some] at hsd
  generalize ((m.base.codes.take i).map fun c => [TV.sl w0.heap.size 1 (aS (dps c))]) = R1 at hsn hrlen |-
  generalize hR2 : ((m.base.codes.take (i + 1)).map fun c => [TV.sl w0.heap.size 1 (aS (dps c))]) = R2 at hsn
  repeat' (first | refine W_ ?_ | (refine aj ?_; intro ss bb) | refine ac ?_ | ((with_reducible apply aG); rfl; kernel_rfl; (repeat (first | exact aF.nil | ((with_reducible apply aF.cons); rfl))); exact hG; exact hsd; exact .nil _; rintro ⟨s9, b10⟩ -; refine bm ?_))
  refine aaQ (t := 89) rfl (ao _) (.head _) ?_
  repeat' (first | refine W_ ?_ | refine cH ?_ | ((with_reducible apply ck); rfl; rfl; rfl; kernel_rfl; (repeat (first | with_reducible exact mh | with_reducible refine mt ?_)); exact hrlen; exact (rfl : _ = 1); omega; exact hsn; (intro bq; (repeat (first | with_reducible exact Upd.head _ | with_reducible apply Upd.tail))); intro bb))
  subst hR2
  exact ag (i + 1, _) (by dsimp only; omega) (by dsimp only; omega) (.of _ nw_ od_ pk_)
 obtain rfl : i = m.base.codes.length := by omega
 rw [List.take_of_length_le (Nat.le_refl _)]
 have hddl : (m.base.codes.map fun c => [TV.sl w0.heap.size 1 (aS (dps c))]).length = m.base.codes.length := by simp
 clear hdp hsc hlt hi
 generalize (m.base.codes.map fun c => [TV.sl w0.heap.size 1 (aS (dps c))]) = dd at hW hddl |-
 repeat' refine H_ 25 ?_
 refine ⟨?_⟩
 refine nf (t := 8) rfl hddl (.head _) ?_
 repeat' refine W_ ?_
 apply ak (X := Nat) [1, 5, 8, 93, 94] (fun i => [(95, .int .i64 (i : Int))]) (fun _ => []) (fun i => i <= A.length /\ (∀ p ∈ A.take i, (0 <= p /\ p < m.processes.length) /\ ∀ q, m.processes[p.toNat]? = some q -> dk m q.at_) /\ (A.take i).Nodup) (fun i => A.length - i) 0 ⟨Nat.zero_le _, by simp, by simp⟩
 exact kp_; exact nw_
 ·exact .refl _
 rintro i ⟨hi, hin, hnd⟩
 try dsimp only
 by_cases hlt : i < A.length
 case neg =>
   obtain rfl : i = A.length := by omega
   rw [List.take_of_length_le (Nat.le_refl _)] at hin hnd
   rw [hTl ⟨fun p hp => (hin p hp).1, hnd, fun p hp => (hin p hp).2⟩]
   repeat' refine W_ ?_
   exact r1_
 have hrow := jW hlt
 have hta := aV (p := fun p : Int => (0 <= p /\ p < m.processes.length) /\ ∀ q, m.processes[p.toNat]? = some q -> dk m q.at_) hlt hin
 have hns := pV hlt hnd
 have hb1 : ¬ (0 <= A[i] /\ A[i] < m.processes.length) -> V = false := fun h => hFl fun k => h (k.1 _ (List.getElem_mem hlt))
 have hb2 : A[i] ∈ A.take i -> V = false := fun h => hFl fun k => sU hlt h k.2.1
 have hb3 : ∀ q, m.processes[A[i].toNat]? = some q -> ¬ dk m q.at_ -> V = false := fun q hq hn => hFl fun k => hn (k.2.2 _ (List.getElem_mem hlt) q hq)
 have htk := tV A i
 have hhas := k7 (G := GL) hst w0.heap.size (A.take i) A[i] (by rw [List.length_take]; omega)
 have k1 := aN (G := GL) A[i] 0 ((m.processes.length - 1 : Nat) : Int)
 clear hin hFl hTl
 generalize A[i] = p at hrow hta hns hb1 hb2 hb3 hhas k1
 by_cases hr : 0 <= p /\ p < m.processes.length
 case neg =>
   rw [show inR p 0 ((m.processes.length - 1 : Nat) : Int) = false from by simp only [inR, decide_eq_false_iff_not]; omega] at k1
   rw [hb1 hr]
   repeat' (first | refine V_ ?_ | refine ae hG hst (k1) ?_)
   exact r1_
 rw [show inR p 0 ((m.processes.length - 1 : Nat) : Int) = true from by simp only [inR, decide_eq_true_eq]; omega] at k1
 by_cases hm : p ∈ A.take i
 ·rw [decide_eq_true hm] at hhas
  rw [hb2 hm]
  repeat' (first | refine V_ ?_ | refine kH ?_ | refine ae hG hst (k1) ?_ | refine ae hG hst (hhas) ?_)
  exact r1_
 rw [decide_eq_false hm] at hhas
 obtain ⟨u, rfl⟩ : ∃ u : Nat, p = u := ⟨p.toNat, by omega⟩
 have hul : u < m.processes.length := by omega
 have hrp := qS (lo := lo) hul
 have hwu := hW m.processes[u].at_
 have hq : m.processes[((u : Nat) : Int).toNat]? = some m.processes[u] := by rw [Int.toNat_natCast, List.getElem?_eq_getElem hul]
 have hb3 := hb3 _ hq
 have hta2 : dk m m.processes[u].at_ -> ∀ q, m.processes[((u : Nat) : Int).toNat]? = some q -> dk m q.at_ := fun h q hqq => by rw [hq] at hqq; cases hqq; exact h
 generalize m.processes[u] = pr at hrp hwu hb3 hta2
 cases hB : jC m pr.at_
 ·rw [hB] at hwu
  rw [hb3 fun h => by rw [rp h] at hB; cases hB]
  repeat' (first | refine V_ ?_ | refine kH ?_ | refine ae hG hst (k1) ?_ | refine ae hG hst (hhas) ?_ | refine ae hG hst (hwu) ?_)
  exact r1_
 ·rw [hB] at hwu
  have hcp := aas.1 hB
  repeat' (first | refine V_ ?_ | refine kH ?_ | refine ae hG hst (k1) ?_ | refine ae hG hst (hhas) ?_ | refine ae hG hst (hwu) ?_)
  exact ag (i + 1) ⟨by omega, hta ⟨hr, hta2 hcp⟩, hns hm⟩ (by omega) (.of _ nw_ od_ pk_)
end Go.Proofs.YtofnnnpahglfdaaGreatDoor
