/- Part 34 of the proof. -/
import Derived.Test.YtiihihgjiklnoaaGreatDoorRd30
import Derived.Test.YtiihihgjiklnoaaGreatDoorRd31
import Derived.Test.YtiihihgjiklnoaaGreatDoorRd3
import Derived.Test.YtiihihgjiklnoaaGreatDoorRd15
import Derived.Test.YtiihihgjiklnoaaGreatDoorRd8
set_option maxHeartbeats 4000000
set_option maxRecDepth 20000
namespace Go.Proofs.YtiihihgjiklnoaaGreatDoor
open Go Go.RowKit
theorem jA {lo : Nat} {l : List ar} {i : Nat} (h : i < l.length) : (l.map (ar.tw lo))[i]? = some [.int .i64 l[i].kind, .int .i64 l[i].class_, .sl lo 3 (l[i].fields.map (ab.tw lo)), .sl lo 1 (aM l[i].numbers)] := aE h
theorem aaN {m : ag} {oc : Int} {fs : List ab} {n0 n1 n2 : Int} : sy m ⟨1, oc, fs, [n0, n1, n2]⟩ ↔ vc m n0 n1 n2 := by
 unfold sy
 constructor
 ·intro h; exact h rfl n0 n1 n2 rfl
 ·intro h _ a b c e
  simp only [List.cons.injEq] at e
  obtain ⟨rfl, rfl, rfl, _⟩ := e
  exact h
open Classical in
noncomputable def sc (m : ag) : Bool := decide (∀ o ∈ m.store.objects, sy m o)
open Classical in
theorem aaX {m : ag} {o : ar} (ho : o ∈ m.store.objects) (h : ¬ sy m o) : sc m = false := decide_eq_false fun k => h (k o ho)
open Classical in
theorem aaZ {m : ag} (h : ∀ o ∈ m.store.objects, sy m o) : sc m = true := decide_eq_true h
theorem aaE {l : List Int} (h : l.length = 3) : ∃ a b c, l = [a, b, c] := by
 match l, h with
 | [a, b, c], _ => exact ⟨a, b, c, rfl⟩
section
variable {G : World -> Prop}
theorem rx (lo : Nat) (l : List Int) (v : Int) (hn : l.length <= 1000000000) : Ct Tryz.prog G 232 [.sl lo 1 (aM l), .int .i64 v] (fun _ => .bool (decide (v ∈ l))) := by
 refine ak Tryz.func232 rfl Tryz.ntmps232 rfl rfl fun w0 _ hG => ?_
 have hlen := ap l
 repeat' refine W_ ?_
 apply am (X := Nat) [0, 1] (fun i => [(5, .int .i64 (i : Int))]) (fun _ => []) (fun i => i <= l.length /\ ∀ y ∈ l.take i, y ≠ v) (fun i => l.length - i) 0 ⟨Nat.zero_le _, by simp⟩
 exact kp_; exact nw_
 ·exact .refl _
 rintro i ⟨hi, hs⟩
 try dsimp only
 by_cases hlt : i < l.length
 ·have hrow := iD hlt
  have hta := aP (p := fun y => y ≠ v) hlt hs
  have hmm := List.getElem_mem hlt
  generalize l[i] = x at hrow hta hmm
  by_cases hx : x = v
  ·rw [decide_eq_true (hx ▸ hmm)]
   repeat' refine W_ ?_
   exact r1_
  ·repeat' refine W_ ?_
   exact ah (i + 1) ⟨by omega, hta hx⟩ (by omega) (.of _ nw_ od_ pk_)
 ·rw [List.take_of_length_le (by omega)] at hs
  rw [decide_eq_false fun h => hs v h rfl]
  repeat' refine W_ ?_
  exact r1_
end
def kY (m : ag) (L : List Int) : Prop := (∀ p ∈ L, 0 <= p /\ p < m.processes.length) /\ L.Nodup
open Classical in
noncomputable def alO (m : ag) : Option (List Int) := if kY m (lu m ++ m.ready ++ qS m) then some (lu m ++ m.ready ++ qS m) else none
open Classical in
theorem abz {m : ag} {L : List Int} (e : L = lu m ++ m.ready ++ qS m) (h : kY m L) : alO m = some L := by subst e; exact if_pos h
open Classical in
theorem abl {m : ag} {L : List Int} (e : L = lu m ++ m.ready ++ qS m) (h : ¬ kY m L) : alO m = none := by subst e; exact if_neg h
open Classical in
theorem yg {m : ag} {L : List Int} (h : alO m = some L) : L = lu m ++ m.ready ++ qS m /\ kY m L := by
 unfold alO at h
 split at h
 ·rename_i hp
  cases h
  exact ⟨rfl, hp⟩
 ·cases h
open Classical in
theorem yw {m : ag} (h : alO m = none) : ¬ kY m (lu m ++ m.ready ++ qS m) := by
 unfold alO at h
 split at h
 ·cases h
 ·assumption
noncomputable def wj (m : ag) (K : Nat) : TV := .tup [.sl K 1 (aM ((alO m).getD [])), .bool (alO m).isSome]
theorem mL {L : List Int} {i : Nat} (h : i < L.length) (hn : (L.take i).Nodup) (hx : L[i] ∉ L.take i) : (L.take (i + 1)).Nodup := by
 rw [jp h, List.nodup_append]
 refine ⟨hn, by simp, fun a ha b hb e => ?_⟩
 rw [List.mem_singleton] at hb
 subst hb
 exact hx (e ▸ ha)
theorem qi {L : List Int} {i : Nat} (h : i < L.length) (hx : L[i] ∈ L.take i) : ¬ L.Nodup := fun hn => by
 rw [<- List.take_append_drop i L, List.nodup_append] at hn
 exact hn.2.2 _ hx L[i] (by rw [List.drop_eq_getElem_cons h]; exact List.mem_cons_self) rfl
theorem oD (a b : List Int) : aM a ++ aM b = aM (a ++ b) := by simp [aM]
theorem pb (a : List Int) (n : Nat) : (aM a).drop n = aM (a.drop n) := by simp [aM]
theorem p0 (a : List Int) (n : Nat) : (aM a).take n = aM (a.take n) := by simp [aM]
theorem lj {l : List ar} {i : Nat} (h : i < l.length) : (l.take (i + 1)).flatMap qO = (l.take i).flatMap qO ++ qO l[i] := by
 rw [jp h, List.flatMap_append]; simp
theorem r9 {l : List ar} {i : Nat} (hi : i <= l.length) (hs : ∀ o ∈ l, o.numbers.length <= 1048576) : ((l.take i).flatMap qO).length <= i * 1048576 := by
 induction i with
 | zero => simp
 | succ i ih =>
   have hlt : i < l.length := by omega
   rw [lj hlt, List.length_append]
   have h1 := ih (by omega)
   have h2 : (qO l[i]).length <= 1048576 := by
     have := hs _ (List.getElem_mem hlt)
     unfold qO
     split
     ·rw [List.length_drop]; omega
     ·simp
   omega
theorem rp (m : ag) : (lu m).length <= 1 := by unfold lu; split <;> simp
theorem rf (f lo : Nat) (m : ag) (hsm : m.small 1048576) (h800 : m.store.objects.length <= 800) (hsem : ∀ o ∈ m.store.objects, o.kind = 3 -> 1 <= o.numbers.length) (hp1 : 1 <= m.processes.length) : Ct Tryz.prog GL 168 [.cp f (m.tw lo)] (wj m) := by
 refine ak Tryz.func168 rfl Tryz.ntmps168 rfl rfl fun w0 _ hG => ?_
 have hst := cU
 have hlo := ar.len lo m.store.objects
 have hlp := av.len lo m.processes
 have hpl := hsm.2.2.2.2.1.1
 have hrl := hsm.2.2.2.2.2.1
 have hrl2 := ap m.ready
 have hnum : ∀ o ∈ m.store.objects, o.numbers.length <= 1048576 := fun o h => (hsm.2.1.2.1.2 o h).2
 have hsl := fun (i : Nat) (h : i <= m.store.objects.length) => r9 h hnum
 have hnl := rp m
 have hnow : lu m = if m.status = 0 then [m.now] else [] := rfl
 unfold wj
 unfold ag.tw
 repeat' (first | refine H_ 2 ?_ | ((with_reducible apply yA (n := 0)); rfl; rfl; kernel_rfl; kernel_rfl; rfl; kernel_rfl; rfl; rfl; rfl; rfl; intro ss bb))
 refine ⟨?_⟩
 generalize ss = s4; generalize bb = b4
 apply ez (X := Nat) [0] (fun b => [(4, .ms s4 b 0 (lu m).length)]) (fun b => [(s4, b, .row 1 (aM (lu m)))]) (fun _ => True)
 case hk => (repeat (first | exact gS.nil | (apply gS.cons; rfl)))
 ·rw [hnow]
  by_cases hs : m.status = 0
  ·rw [if_pos hs]
   repeat' (first | refine W_ ?_ | refine dl ?_ | ((with_reducible apply ql); rfl; rfl; rfl; kernel_rfl; (repeat (first | with_reducible exact mh | with_reducible refine mt ?_)); exact (rfl : _ = 1); omega; (intro bq; (repeat (first | with_reducible exact Upd.head _ | with_reducible apply Upd.tail))); intro bb))
   exact dg _ trivial (.of _ nw_ od_ pk_)
  ·rw [if_neg hs]
   repeat' refine W_ ?_
   exact dg b4 trivial (.of _ nw_ od_ pk_)
 clear hnow
 intro b5 _
 generalize hN0 : lu m = N0 at hnl |-
 have hap1 := oD N0 m.ready
 repeat' (first | refine W_ ?_ | ((with_reducible apply fA); rfl; rfl; rfl; kernel_rfl; (repeat (first | with_reducible exact mh | with_reducible refine mt ?_)); exact ap _; exact hrl2; omega; exact hap1; (intro bq; (repeat (first | with_reducible exact Upd.head _ | with_reducible apply Upd.tail))); intro bb))
 rw [<- List.length_append]
 apply am (X := Nat × Nat × List Int) [0] (fun x => [(5, .int .i64 (x.1 : Int)), (4, .ms s4 x.2.1 0 x.2.2.length)]) (fun x => [(s4, x.2.1, .row 1 (aM x.2.2))]) (fun x => x.1 <= m.store.objects.length /\ x.2.2 = N0 ++ m.ready ++ (m.store.objects.take x.1).flatMap qO) (fun x => m.store.objects.length - x.1) (0, bb, N0 ++ m.ready) ⟨Nat.zero_le _, by simp⟩
 exact kp_; exact nw_
 ·exact .refl _
 rintro ⟨i, b6, A⟩ ⟨hi, hA⟩
 dsimp only at hi hA |-
 have hAl : A.length <= 1 + 1048576 + i * 1048576 := by
   rw [hA, List.length_append, List.length_append]
   have := hsl i hi
   omega
 by_cases hlt : i < m.store.objects.length
 ·have hrow := jA (lo := lo) hlt
  have hsn := lj hlt
  have hol := hnum _ (List.getElem_mem hlt)
  have hse := hsem _ (List.getElem_mem hlt)
  have hA2 : A ++ qO m.store.objects[i] = N0 ++ m.ready ++ (m.store.objects.take (i + 1)).flatMap qO := by rw [hsn, hA, List.append_assoc (N0 ++ m.ready)]
  clear hsn hsem hsl hnum
  generalize m.store.objects[i] = o at hrow hol hse hA2
  obtain ⟨ok, oc, fs, ns⟩ := o
  dsimp only at hrow hol hse
  unfold qO at hA2
  dsimp only at hA2
  have hnl2 := ap ns
  by_cases hk : ok = 3
  ·rw [if_pos hk] at hA2
   have h1 := hse hk
   have hdr := pb ns 1
   have hdl := ap (ns.drop 1)
   have hdl2 : (ns.drop 1).length <= 1048576 := by rw [List.length_drop]; omega
   have hap := oD A (ns.drop 1)
   repeat' (first | refine W_ ?_ | (refine aj ?_; intro ss bb) | refine ad ?_ | refine aat ?_ | ((with_reducible apply fA); rfl; rfl; rfl; kernel_rfl; (repeat (first | with_reducible exact mh | with_reducible refine mt ?_)); exact ap _; exact hdl; omega; exact hap; (intro bq; (repeat (first | with_reducible exact Upd.head _ | with_reducible apply Upd.tail))); intro bb))
   rw [<- List.length_append]
   exact ah (i + 1, _, A ++ ns.drop 1) ⟨by dsimp only; omega, hA2⟩ (by dsimp only; omega) (.of _ nw_ od_ pk_)
  ·rw [if_neg hk, List.append_nil] at hA2
   repeat' (first | refine W_ ?_ | (refine aj ?_; intro ss bb) | refine ad ?_)
   exact ah (i + 1, b6, A) ⟨by dsimp only; omega, hA2⟩ (by dsimp only; omega) (.of _ nw_ od_ pk_)
 obtain rfl : i = m.store.objects.length := by omega
 rw [List.take_of_length_le (Nat.le_refl _)] at hA
 have hAe : A = lu m ++ m.ready ++ qS m := by rw [hA, hN0]; rfl
 have hT := abz hAe
 have hF := abl hAe
 generalize alO m = r at hT hF |-
 clear hA hAe hN0 hap1 hsl hsem hnum
 replace hAl : A.length <= 900000000 := by omega
 repeat' refine H_ 11 ?_
 refine ⟨?_⟩
 refine kP (t := 4) rfl (ap _) (.head _) ?_
 have hll := ap A
 repeat' refine W_ ?_
 apply am (X := Nat) [0, 4] (fun i => [(7, .int .i64 (i : Int))]) (fun _ => []) (fun i => i <= A.length /\ (∀ p ∈ A.take i, 0 <= p /\ p < m.processes.length) /\ (A.take i).Nodup) (fun i => A.length - i) 0 ⟨Nat.zero_le _, by simp, by simp⟩
 exact kp_; exact nw_
 ·exact .refl _
 rintro i ⟨hi, hin, hnd⟩
 try dsimp only
 by_cases hlt : i < A.length
 case neg =>
   obtain rfl : i = A.length := by omega
   rw [List.take_of_length_le (Nat.le_refl _)] at hin hnd
   rw [hT ⟨hin, hnd⟩]
   repeat' refine W_ ?_
   refine dB x_ rfl (.tmp _ _ rfl) (.tmp _ _ rfl) (fun _ => ?_) (fun _ => ?_)
   ·exact Fin.slFlat (Nat.le_refl _) (iS _)
   ·exact Fin.flat rfl
 have hrow := iD hlt
 have hta := aP (p := fun p : Int => 0 <= p /\ p < m.processes.length) hlt hin
 have hns := mL hlt hnd
 have hb1 : ¬ (0 <= A[i] /\ A[i] < m.processes.length) -> r = none := fun h => hF fun k => h (k.1 _ (List.getElem_mem hlt))
 have hb2 : A[i] ∈ A.take i -> r = none := fun h => hF fun k => qi hlt h k.2
 have htk := p0 A i
 have hhas := rx (G := GL) w0.heap.size (A.take i) A[i] (by rw [List.length_take]; omega)
 have k1 := aV (G := GL) A[i] 0 ((m.processes.length - 1 : Nat) : Int)
 generalize A[i] = p at hrow hta hns hb1 hb2 hhas k1
 by_cases hr : 0 <= p /\ p < m.processes.length
 case neg =>
   rw [show inR p 0 ((m.processes.length - 1 : Nat) : Int) = false from by simp only [inR, decide_eq_false_iff_not]; omega] at k1
   rw [hb1 hr]
   repeat' (first | refine V_ ?_ | refine ae hG hst (k1) ?_)
   refine dB x_ rfl (.tmp _ _ rfl) (.tmp _ _ rfl) (fun _ => ?_) (fun _ => ?_)
   ·exact .nils 1
   ·exact Fin.flat rfl
 rw [show inR p 0 ((m.processes.length - 1 : Nat) : Int) = true from by simp only [inR, decide_eq_true_eq]; omega] at k1
 by_cases hm : p ∈ A.take i
 ·rw [decide_eq_true hm] at hhas
  rw [hb2 hm]
  repeat' (first | refine V_ ?_ | refine jd ?_ | refine ae hG hst (k1) ?_ | refine ae hG hst (hhas) ?_)
  refine dB x_ rfl (.tmp _ _ rfl) (.tmp _ _ rfl) (fun _ => ?_) (fun _ => ?_)
  ·exact .nils 1
  ·exact Fin.flat rfl
 ·rw [decide_eq_false hm] at hhas
  repeat' (first | refine V_ ?_ | refine jd ?_ | refine ae hG hst (k1) ?_ | refine ae hG hst (hhas) ?_)
  exact ah (i + 1) ⟨by omega, hta hr, hns hm⟩ (by omega) (.of _ nw_ od_ pk_)
theorem xS {l : List Int} (h : aM l = []) : l = [] := by
 cases l with
 | nil => rfl
 | cons a r => simp [aM] at h
theorem ld {G : World -> Prop} (lo : Nat) (l : List Int) (hn : l.length <= 1048576) : CtM Tryz.prog G 242 [.sl lo 1 (aM l)] [] (fun _ : Nat × Nat => True) (fun y => [(y.1, y.2, .row 1 (aM l))]) (fun y => .ms y.1 y.2 0 l.length) := by
 refine aJ Tryz.func242 rfl Tryz.ntmps242 rfl rfl rfl fun w0 R gs objsR hG hR => ?_
 obtain rfl := hR.inv0
 clear hR
 have hlen := ap l
 repeat' (first | refine W_ ?_ | ((with_reducible apply zQ); rfl; rfl; rfl; kernel_rfl; intro bl hbl) | ((with_reducible apply yA (n := 0)); rfl; rfl; kernel_rfl; kernel_rfl; rfl; kernel_rfl; rfl; rfl; rfl; rfl; intro ss bb) | ((with_reducible apply ql); rfl; rfl; rfl; kernel_rfl; (repeat (first | with_reducible exact mh | with_reducible refine mt ?_)); (first | with_reducible assumption | exact aY _ | exact ap _ | exact aX _ | exact List.length_map _ | assumption | rfl); omega; (intro bq; (repeat (first | with_reducible exact Upd.head _ | with_reducible apply Upd.tail))); intro bb) | refine c_ (fun hc => ?_) (fun hc => ?_))
 ·obtain rfl := xS (hbl hc)
  refine dH 2 1 (by decide) rfl fun ss => ?_
  exact aG x_ rfl (ss, 0) trivial rfl (.cons _ _ _ _ (.nil R)) (.refl _) (.tmp _ _ rfl) rfl
 ·exact aG x_ rfl (_, _) trivial rfl (.cons _ _ _ _ (.nil R)) (.refl _) (.tmp _ _ rfl) rfl
theorem aa5 {l2 : Nat} {l : List au} {i : Nat} (h : i < l.length) : (l.map fun x => [TV.sl l2 1 (aM (dps x))])[i]? = some [.sl l2 1 (aM (dps l[i]))] := aE h
theorem yX {x : au} {ds : List Int} (h : bF x.instrs = some ds) : dps x = ds := by unfold dps; rw [h]; rfl
theorem yz (lo l2 : Nat) (m : ag) (hsm : m.small 1048576) (hdep : ∀ c ∈ m.base.codes, ip c.instrs = true /\ ∃ ds, bF c.instrs = some ds /\ ds.length = c.instrs.length) (hsd : js m)
   (hpl : ∀ (i : Nat) (h : i < m.contexts.length), m.contexts[i].mark = 0 -> (0 <= m.contexts[i].code /\ m.contexts[i].code < m.base.codes.length) /\ 0 <= m.contexts[i].pc) (at0 : Int) : Ct Tryz.prog GL 244 [.agg (m.tw lo), .sl l2 1 (m.base.codes.map fun x => [TV.sl l2 1 (aM (dps x))]), .int .i64 at0] (fun _ => .bool (gZ m at0)) := by
 refine ak Tryz.func244 rfl Tryz.ntmps244 rfl rfl fun w0 _ hG => ?_
 have hst := cU
 have hlx := ao.len lo m.contexts
 have hxl := hsm.2.2.2.1.1
 have hcl2 := hsm.1.2.1.1
 have hxr := fun (i : Nat) (h : i < m.contexts.length) => cr (lo := lo) (l := m.contexts) h
 have hdr := fun (i : Nat) (h : i < m.base.codes.length) => aa5 (l2 := l2) h
 have hdl : (m.base.codes.map fun x => [TV.sl l2 1 (aM (dps x))]).length = m.base.codes.length := by simp
 have hon := fun (k0 a : Int) h => sG (G := GL) w0.heap.size lo m hxl hsd k0 a h
 have hsx := fun (i : Nat) (h : i < m.contexts.length) => (hsm.2.2.2.1.2 _ (List.getElem_mem h)).2.2.1.1
 have hsi := fun (i : Nat) (h : i < m.base.codes.length) => (hsm.1.2.1.2 _ (List.getElem_mem h)).1
 have k1 := aI (G := GL) at0 0 ((m.contexts.length : Int) - 1)
 generalize (m.base.codes.map fun x => [TV.sl l2 1 (aM (dps x))]) = dd at hdr hdl |-
 unfold ag.tw at hon |-
 by_cases hin : 0 <= at0 /\ at0 < m.contexts.length
 case neg =>
   rw [iz fun h => hin (by
     obtain ⟨c, hc, _⟩ := h
     obtain ⟨h0, h1, _⟩ := kt hc
     omega)]
   rw [show inR at0 0 ((m.contexts.length : Int) - 1) = false from by simp only [inR, decide_eq_false_iff_not]; omega] at k1
   by_cases hz : 1 <= m.contexts.length
   ·rw [show (m.contexts.length : Int) - 1 = ((m.contexts.length - 1 : Nat) : Int) by omega] at k1
    repeat' (first | refine W_ ?_ | refine aF ?_ | refine ac hG hst (k1) ?_)
    exact r1_
   ·repeat' (first | refine W_ ?_ | refine aF ?_ | refine ac hG hst (k1) ?_)
    exact r1_
 rw [show inR at0 0 ((m.contexts.length : Int) - 1) = true from by simp only [inR, decide_eq_true_eq]; omega] at k1
 rw [show (m.contexts.length : Int) - 1 = ((m.contexts.length - 1 : Nat) : Int) by omega] at k1
 obtain ⟨u, rfl⟩ : ∃ u : Nat, at0 = u := ⟨at0.toNat, by omega⟩
 have hu : u < m.contexts.length := by omega
 have hru := hxr u hu
 by_cases hm0 : m.contexts[u].mark = 0
 case neg =>
   rw [iz fun h => by
     obtain ⟨c, hc, h0, _⟩ := h
     rw [f5 hu] at hc
     cases hc
     exact hm0 h0]
   have hm0' : m.contexts[u].mark ≠ 0 := hm0
   generalize m.contexts[u] = c at hru hm0'
   repeat' (first | refine W_ ?_ | refine aF ?_ | refine ac hG hst (k1) ?_)
   exact r1_
 have hm0' : ¬ m.contexts[u].mark ≠ 0 := fun h => h hm0
 have hiff : cK m (u : Int) ↔ tJ m 0 (u : Int) := ⟨fun h => by
   obtain ⟨c, _, _, h3⟩ := h
   exact h3, fun h => ⟨_, f5 hu, hm0, h⟩⟩
 clear hm0
 generalize m.contexts[u] = c at hru hm0'
 repeat' (first | refine W_ ?_ | refine aF ?_ | refine ac hG hst (k1) ?_)
 apply am (X := Int × Int) [1, 3] (fun x => [(7, .int .i64 x.1), (8, .int .i64 x.2)]) (fun _ => []) (fun x => (-1 <= x.1 /\ x.1 < m.contexts.length) /\ (cK m (u : Int) ↔ tJ m x.2 x.1)) (fun x => (x.1 + 1).toNat) ((u : Int), 0) ⟨by dsimp only; omega, hiff⟩
 exact kp_; exact nw_
 ·exact .refl _
 clear hiff k1 hru hm0'
 rintro ⟨k, less⟩ ⟨hk, hiff⟩
 dsimp only at hk hiff |-
 by_cases hneg : k < 0
 ·rw [nH (hiff.2 (.out _ _ hneg))]
  repeat' refine W_ ?_
  exact r1_
 obtain ⟨n, rfl⟩ : ∃ n : Nat, k = n := ⟨k.toNat, by omega⟩
 have hn : n < m.contexts.length := by omega
 have hrn := hxr n hn
 have hst2 := hiff.trans (kE hn)
 have hsn := hsd n hn
 have hpn := hpl n hn
 have hsz := hsx n hn
 have hot := hon m.contexts[n].sender m.contexts[n].other (by omega)
 clear hxr hpl hon hsd hsx
 have hF : lc m m.contexts[n] less = false -> gZ m (u : Int) = false := fun h => iz fun hc => by have := (hst2.1 hc).1; rw [h] at this; cases this
 have hT : lc m m.contexts[n] less = true -> (cK m (u : Int) ↔ tJ m 1 m.contexts[n].sender) := fun h => ⟨fun hc => (hst2.1 hc).2, fun hw => hst2.2 ⟨h, hw⟩⟩
 clear hst2
 unfold lc at hF hT
 by_cases hm0 : m.contexts[n].mark = 0
 ·rw [if_pos hm0] at hF hT
  obtain ⟨⟨c0, c1⟩, c2⟩ := hpn hm0
  obtain ⟨q, hq⟩ : ∃ q : Nat, m.contexts[n].code = q := ⟨m.contexts[n].code.toNat, by omega⟩
  obtain ⟨p, hp⟩ : ∃ p : Nat, m.contexts[n].pc = p := ⟨m.contexts[n].pc.toNat, by omega⟩
  have hql : q < m.base.codes.length := by omega
  obtain ⟨_, ds, hds, hdsl⟩ := hdep _ (List.getElem_mem hql)
  have hB := vY (less := less) hq (List.getElem?_eq_getElem hql) hp hds
  have hdq := hdr q hql
  rw [yX hds] at hdq
  have hil := hsi q hql
  rw [hB] at hF hT
  rw [hq, hp] at hrn
  rw [<- hdsl] at hF hT hil
  clear hB hdr hsi hot hds hdep hdsl
  have hol := ap ds
  generalize m.contexts[n] = c at hrn hm0 hsn hT hF hsz
  obtain ⟨mk, cc, pc, sd, ou, hm, ⟨sk, sn, st⟩, slots, stack, values, oth, rt⟩ := c
  dsimp only at hrn hm0 hsn hT hF hsz
  have htl := ab.len lo stack
  by_cases hpl : p < ds.length
  case neg =>
    rw [hF (by rw [decide_eq_false hpl, Bool.false_and])]
    repeat' (first | refine V_ ?_ | (refine aj ?_; intro ss bb) | refine ad ?_)
    exact r1_
  rw [decide_eq_true hpl, Bool.true_and] at hF hT
  have hgp := ef (o := ds) (j := p) (by omega)
  generalize hW : IntKind.i64.wrap (gd ds (p : Int) - less) = W at hF hT
  generalize gd ds (p : Int) = g at hgp hW hF hT
  by_cases hg0 : 0 <= g
  case neg =>
    rw [hF (by rw [decide_eq_false hg0, Bool.false_and])]
    repeat' (first | refine V_ ?_ | (refine aj ?_; intro ss bb) | refine ad ?_)
    exact r1_
  rw [decide_eq_true hg0, Bool.true_and] at hF hT
  have hg0' : ¬ g < 0 := by omega
  by_cases hsW : (stack.length : Int) = W
  case neg =>
    have hsW' : (stack.length : Int) ≠ W := hsW
    rw [hF (decide_eq_false hsW)]
    repeat' (first | refine V_ ?_ | (refine aj ?_; intro ss bb) | refine ad ?_)
    exact r1_
  have hsW' : ¬ (stack.length : Int) ≠ W := fun h => h hsW
  replace hT := hT (decide_eq_true hsW)
  repeat' (first | refine V_ ?_ | (refine aj ?_; intro ss bb) | refine ad ?_)
  exact ah (sd, 1) ⟨by dsimp only; omega, hT⟩ (by dsimp only; omega) (.of _ nw_ od_ pk_)
 rw [if_neg hm0] at hF hT
 clear hpn hdr hsi hdep
 by_cases hm35 : m.contexts[n].mark = 3 \/ m.contexts[n].mark = 5
 ·rw [if_pos hm35] at hF hT
  generalize onB m m.contexts[n].other m.contexts[n].sender = b at hot hF hT
  generalize m.contexts[n] = c at hrn hm0 hm35 hsn hT hot
  rcases hm35 with hm3 | hm5
  ·have hm5 : ¬ c.mark = 5 := by omega
   cases b
   ·rw [hF rfl]
    repeat' (first | refine W_ ?_ | (refine aj ?_; intro ss bb) | refine ad ?_ | refine ac hG hst (hot) ?_)
    exact r1_
   ·repeat' (first | refine W_ ?_ | (refine aj ?_; intro ss bb) | refine ad ?_ | refine ac hG hst (hot) ?_)
    exact ah (c.sender, 1) ⟨by dsimp only; omega, hT rfl⟩ (by dsimp only; omega) (.of _ nw_ od_ pk_)
  ·have hm3 : ¬ c.mark = 3 := by omega
   cases b
   ·rw [hF rfl]
    repeat' (first | refine W_ ?_ | (refine aj ?_; intro ss bb) | refine ad ?_ | refine ac hG hst (hot) ?_)
    exact r1_
   ·repeat' (first | refine W_ ?_ | (refine aj ?_; intro ss bb) | refine ad ?_ | refine ac hG hst (hot) ?_)
    exact ah (c.sender, 1) ⟨by dsimp only; omega, hT rfl⟩ (by dsimp only; omega) (.of _ nw_ od_ pk_)
 ·rw [if_neg hm35] at hT
  have hm3 : ¬ m.contexts[n].mark = 3 := fun h => hm35 (.inl h)
  have hm5 : ¬ m.contexts[n].mark = 5 := fun h => hm35 (.inr h)
  generalize m.contexts[n] = c at hrn hm0 hm3 hm5 hsn hT
  repeat' (first | refine W_ ?_ | (refine aj ?_; intro ss bb) | refine ad ?_)
  exact ah (c.sender, 1) ⟨by dsimp only; omega, hT rfl⟩ (by dsimp only; omega) (.of _ nw_ od_ pk_)
end Go.Proofs.YtiihihgjiklnoaaGreatDoor
