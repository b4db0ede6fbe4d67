/- Part 35 of the proof: the texts ImG0, ImP, ImQ. -/
import Derived.Test.YtigipcbnfeoliaaGreatDoorFi26
import Derived.Test.YtigipcbnfeoliaaGreatDoorFi8
import Derived.Test.YtigipcbnfeoliaaGreatDoorFi32
import Derived.Test.YtigipcbnfeoliaaGreatDoorFi33
import Derived.Test.YtigipcbnfeoliaaGreatDoorFi3
import Derived.Test.YtigipcbnfeoliaaGreatDoorFi15
set_option linter.all false
set_option maxHeartbeats 4000000
set_option maxRecDepth 20000
namespace Go.Proofs.YtigipcbnfeoliaaGreatDoor
open Go Go.RowKit
open Classical in
noncomputable def yP (a b : List aa) : Bool := decide (a = b)
open Classical in
theorem qR {a b : List aa} (h : ¬ a = b) : yP a b = false := decide_eq_false h
open Classical in
theorem xU {a b : List aa} (h : a = b) : yP a b = true := decide_eq_true h
theorem ac0 {x y : aa} (h1 : x.name = y.name) (h2 : x.parent = y.parent) (h3 : x.fields = y.fields) : x = y := by
 cases x; cases y; simp_all
theorem ip {α : Type} {a b : List α} {i : Nat} (ha : i < a.length) (hb : i < b.length) (h : a.take i = b.take i) (e : a[i] = b[i]) : a.take (i + 1) = b.take (i + 1) := by
 rw [eo ha, eo hb, h, e]
section
variable {G : World -> Prop}
theorem zh (hst : aC G) (l1 l2 : Nat) (a b : List aa) (ha : a.length <= 1048576 /\ ∀ y ∈ a, aa.small 1048576 y) (hb : b.length <= 1048576 /\ ∀ y ∈ b, aa.small 1048576 y) : Ct Tryz.prog G 101 [.sl l1 3 (a.map (aa.tw l1)), .sl l2 3 (b.map (aa.tw l2))] (fun _ => .bool (yP a b)) := by
 refine aq Tryz.func101 rfl Tryz.ntmps101 rfl rfl fun w0 _ hG => ?_
 have hla := aa.len l1 a
 have hlb := aa.len l2 b
 have ha1 := ha.1
 have hb1 := hb.1
 by_cases hl : a.length = b.length
 case neg =>
   rw [qR fun e => hl (by rw [e])]
   repeat' refine W_ ?_
   exact r1_
 repeat' refine W_ ?_
 apply ai (X := Nat) [0, 1] (fun i => [(5, .int .i64 (i : Int))]) (fun _ => []) (fun i => i <= a.length /\ a.take i = b.take i) (fun i => a.length - i) 0 ⟨Nat.zero_le _, by simp⟩
 exact kp_; exact nw_
 ·exact .refl _
 rintro i ⟨hi, hs⟩
 try dsimp only
 by_cases hlt : i < a.length
 ·have hr1 := gu (lo := l1) hlt
  have hlt2 : i < b.length := by omega
  have hr2 := gu (lo := l2) hlt2
  have hta := ip hlt hlt2 hs
  have hne : a[i] ≠ b[i] -> yP a b = false := fun h => qR fun e => h (by subst e; rfl)
  have hsa := (ha.2 _ (List.getElem_mem hlt)).2.1
  have hsb := (hb.2 _ (List.getElem_mem hlt2)).2.1
  have hce := ac0 (x := a[i]) (y := b[i])
  generalize a[i] = x at hr1 hta hne hsa hce
  generalize b[i] = y at hr2 hta hne hsb hce
  have c1 := jw (G := G) l1 l2 x.fields y.fields hsa hsb
  by_cases h1 : x.name = y.name
  case neg =>
    have h1' : x.name ≠ y.name := h1
    rw [hne fun e => h1 (by rw [e])]
    repeat' refine V_ ?_
    exact r1_
  have h1' : ¬ x.name ≠ y.name := fun h => h h1
  by_cases h2 : x.parent = y.parent
  case neg =>
    have h2' : x.parent ≠ y.parent := h2
    rw [hne fun e => h2 (by rw [e])]
    repeat' refine V_ ?_
    exact r1_
  have h2' : ¬ x.parent ≠ y.parent := fun h => h h2
  by_cases h3 : x.fields = y.fields
  case neg =>
    rw [decide_eq_false h3] at c1
    rw [hne fun e => h3 (by rw [e])]
    repeat' (first | refine V_ ?_ | refine ad hG hst (c1) ?_)
    exact r1_
  rw [decide_eq_true h3] at c1
  repeat' (first | refine V_ ?_ | refine ad hG hst (c1) ?_)
  exact ah (i + 1) ⟨by omega, hta (hce h1 h2 h3)⟩ (by omega) (.of _ nw_ od_ pk_)
 ·rw [List.take_of_length_le (by omega), List.take_of_length_le (by omega)] at hs
  rw [xU hs]
  repeat' refine W_ ?_
  exact r1_
theorem qb (l1 l2 : Nat) (a b : List aa) (ha : a.length <= 1048576 /\ ∀ y ∈ a, aa.small 1048576 y) (hb : b.length <= 1048576 /\ ∀ y ∈ b, aa.small 1048576 y) : Ct Tryz.prog G 152 [.sl l1 3 (a.map (aa.tw l1)), .sl l2 3 (b.map (aa.tw l2))] (fun _ => .bool (yP a b)) := by
 refine aq Tryz.func152 rfl Tryz.ntmps152 rfl rfl fun w0 _ hG => ?_
 have hla := aa.len l1 a
 have hlb := aa.len l2 b
 have ha1 := ha.1
 have hb1 := hb.1
 by_cases hl : a.length = b.length
 case neg =>
   rw [qR fun e => hl (by rw [e])]
   repeat' refine W_ ?_
   exact r1_
 repeat' refine W_ ?_
 apply ai (X := Nat) [0, 1, 13] (fun i => [(14, .int .i64 (i : Int))]) (fun _ => []) (fun i => i <= a.length /\ a.take i = b.take i) (fun i => a.length - i) 0 ⟨Nat.zero_le _, by simp⟩
 exact kp_; exact nw_
 ·exact .refl _
 rintro i ⟨hi, hs⟩
 try dsimp only
 by_cases hlt : i < a.length
 ·have hr1 := gu (lo := l1) hlt
  have hlt2 : i < b.length := by omega
  have hr2 := gu (lo := l2) hlt2
  have hta := ip hlt hlt2 hs
  have hne : a[i] ≠ b[i] -> yP a b = false := fun h => qR fun e => h (by subst e; rfl)
  have hsa := (ha.2 _ (List.getElem_mem hlt)).2.1
  have hsb := (hb.2 _ (List.getElem_mem hlt2)).2.1
  have hce := ac0 (x := a[i]) (y := b[i])
  generalize a[i] = x at hr1 hta hne hsa hce
  generalize b[i] = y at hr2 hta hne hsb hce
  have hxl := aG x.fields
  have hyl := aG y.fields
  by_cases h1 : x.name = y.name
  case neg =>
    have h1' : x.name ≠ y.name := h1
    rw [hne fun e => h1 (by rw [e])]
    repeat' refine V_ ?_
    exact r1_
  have h1' : ¬ x.name ≠ y.name := fun h => h h1
  by_cases h2 : x.parent = y.parent
  case neg =>
    have h2' : x.parent ≠ y.parent := h2
    rw [hne fun e => h2 (by rw [e])]
    repeat' refine V_ ?_
    exact r1_
  have h2' : ¬ x.parent ≠ y.parent := fun h => h h2
  by_cases h3 : x.fields.length = y.fields.length
  case neg =>
    have h3' : (x.fields.length : Int) ≠ y.fields.length := by omega
    rw [hne fun e => h3 (by rw [e])]
    repeat' refine V_ ?_
    exact r1_
  have h3' : ¬ (x.fields.length : Int) ≠ y.fields.length := by omega
  repeat' refine V_ ?_
  apply ai (X := Nat) [0, 1, 13, 14, 5, 61] (fun k => [(62, .int .i64 (k : Int))]) (fun _ => []) (fun k => k <= x.fields.length /\ x.fields.take k = y.fields.take k) (fun k => x.fields.length - k) 0 ⟨Nat.zero_le _, by simp⟩
  exact kp_; exact nw_
  ·exact .refl _
  rintro k ⟨hk, hks⟩
  try dsimp only
  by_cases hkt : k < x.fields.length
  ·have hkt2 : k < y.fields.length := by omega
   have hs1 := ny hkt
   have hs2 := ny hkt2
   have htk := ip hkt hkt2 hks
   have hnf : x.fields[k] ≠ y.fields[k] -> x ≠ y := fun h e => h (by subst e; rfl)
   generalize x.fields[k] = u at hs1 htk hnf
   generalize y.fields[k] = v at hs2 htk hnf
   by_cases h4 : u = v
   case neg =>
     have h4' : u ≠ v := h4
     rw [hne (hnf h4)]
     repeat' refine V_ ?_
     exact r1_
   have h4' : ¬ u ≠ v := fun h => h h4
   repeat' refine V_ ?_
   exact ah (k + 1) ⟨by omega, htk h4⟩ (by omega) (.of _ nw_ od_ pk_)
  ·rw [List.take_of_length_le (by omega), List.take_of_length_le (by omega)] at hks
   repeat' refine W_ ?_
   exact ah (i + 1) ⟨by omega, hta (hce h1 h2 hks)⟩ (by omega) (.of _ nw_ od_ pk_)
 ·rw [List.take_of_length_le (by omega), List.take_of_length_le (by omega)] at hs
  rw [xU hs]
  repeat' refine W_ ?_
  exact r1_
end
theorem lK {lo : Nat} {l : List au} {i : Nat} (h : i < l.length) : (l.map (au.tw lo))[i]? = some [.int .i64 l[i].kind, .int .i64 l[i].class_, .sl lo 3 (l[i].fields.map (ab.tw lo)), .sl lo 1 (aR l[i].numbers)] := aL h
theorem aeW {m : ao} {oc : Int} {fs : List ab} {n0 n1 n2 : Int} : x1 m ⟨1, oc, fs, [n0, n1, n2]⟩ ↔ zE m n0 n1 n2 := by
 unfold x1
 constructor
 ·intro h; exact h rfl n0 n1 n2 rfl
 ·intro h _ a b c e
  simp only [List.cons.injEq] at e
  obtain ⟨rfl, rfl, rfl, _⟩ := e
  exact h
open Classical in
noncomputable def vb (m : ao) : Bool := decide (∀ o ∈ m.store.objects, x1 m o)
open Classical in
theorem aeO {m : ao} {o : au} (ho : o ∈ m.store.objects) (h : ¬ x1 m o) : vb m = false := decide_eq_false fun k => h (k o ho)
open Classical in
theorem aeP {m : ao} (h : ∀ o ∈ m.store.objects, x1 m o) : vb m = true := decide_eq_true h
theorem aeZ {l : List Int} (h : l.length = 3) : ∃ a b c, l = [a, b, c] := by
 match l, h with
 | [a, b, c], _ => exact ⟨a, b, c, rfl⟩
section
variable {G : World -> Prop}
theorem wy (lo : Nat) (l : List Int) (v : Int) (hn : l.length <= 1000000000) : Ct Tryz.prog G 196 [.sl lo 1 (aR l), .int .i64 v] (fun _ => .bool (decide (v ∈ l))) := by
 refine aq Tryz.func196 rfl Tryz.ntmps196 rfl rfl fun w0 _ hG => ?_
 have hlen := ar l
 repeat' refine W_ ?_
 apply ai (X := Nat) [0, 1] (fun i => [(5, .int .i64 (i : Int))]) (fun _ => []) (fun i => i <= l.length /\ ∀ y ∈ l.take i, y ≠ v) (fun i => l.length - i) 0 ⟨Nat.zero_le _, by simp⟩
 exact kp_; exact nw_
 ·exact .refl _
 rintro i ⟨hi, hs⟩
 try dsimp only
 by_cases hlt : i < l.length
 ·have hrow := j1 hlt
  have hta := aY (p := fun y => y ≠ v) hlt hs
  have hmm := List.getElem_mem hlt
  generalize l[i] = x at hrow hta hmm
  by_cases hx : x = v
  ·rw [decide_eq_true (hx ▸ hmm)]
   repeat' refine W_ ?_
   exact r1_
  ·repeat' refine W_ ?_
   exact ah (i + 1) ⟨by omega, hta hx⟩ (by omega) (.of _ nw_ od_ pk_)
 ·rw [List.take_of_length_le (by omega)] at hs
  rw [decide_eq_false fun h => hs v h rfl]
  repeat' refine W_ ?_
  exact r1_
end
def nJ (m : ao) (L : List Int) : Prop := (∀ p ∈ L, 0 <= p /\ p < m.processes.length) /\ L.Nodup
open Classical in
noncomputable def alO (m : ao) : Option (List Int) := if nJ m (nX m ++ m.ready ++ wC m) then some (nX m ++ m.ready ++ wC m) else none
open Classical in
theorem afq {m : ao} {L : List Int} (e : L = nX m ++ m.ready ++ wC m) (h : nJ m L) : alO m = some L := by subst e; exact if_pos h
open Classical in
theorem afm {m : ao} {L : List Int} (e : L = nX m ++ m.ready ++ wC m) (h : ¬ nJ m L) : alO m = none := by subst e; exact if_neg h
open Classical in
theorem ace {m : ao} {L : List Int} (h : alO m = some L) : L = nX m ++ m.ready ++ wC m /\ nJ m L := by
 unfold alO at h
 split at h
 ·rename_i hp
  cases h
  exact ⟨rfl, hp⟩
 ·cases h
open Classical in
theorem ach {m : ao} (h : alO m = none) : ¬ nJ m (nX m ++ m.ready ++ wC m) := by
 unfold alO at h
 split at h
 ·cases h
 ·assumption
noncomputable def abf (m : ao) (K : Nat) : TV := .tup [.sl K 1 (aR ((alO m).getD [])), .bool (alO m).isSome]
theorem qW {L : List Int} {i : Nat} (h : i < L.length) (hn : (L.take i).Nodup) (hx : L[i] ∉ L.take i) : (L.take (i + 1)).Nodup := by
 rw [eo h, List.nodup_append]
 refine ⟨hn, by simp, fun a ha b hb e => ?_⟩
 rw [List.mem_singleton] at hb
 subst hb
 exact hx (e ▸ ha)
theorem sQ {L : List Int} {i : Nat} (h : i < L.length) (hx : L[i] ∈ L.take i) : ¬ L.Nodup := fun hn => by
 rw [<- List.take_append_drop i L, List.nodup_append] at hn
 exact hn.2.2 _ hx L[i] (by rw [List.drop_eq_getElem_cons h]; exact List.mem_cons_self) rfl
theorem rq (a b : List Int) : aR a ++ aR b = aR (a ++ b) := by simp [aR]
theorem tp (a : List Int) (n : Nat) : (aR a).drop n = aR (a.drop n) := by simp [aR]
theorem tK (a : List Int) (n : Nat) : (aR a).take n = aR (a.take n) := by simp [aR]
theorem oz {l : List au} {i : Nat} (h : i < l.length) : (l.take (i + 1)).flatMap wF = (l.take i).flatMap wF ++ wF l[i] := by
 rw [eo h, List.flatMap_append]; simp
theorem wc {l : List au} {i : Nat} (hi : i <= l.length) (hs : ∀ o ∈ l, o.numbers.length <= 1048576) : ((l.take i).flatMap wF).length <= i * 1048576 := by
 induction i with
 | zero => simp
 | succ i ih =>
   have hlt : i < l.length := by omega
   rw [oz hlt, List.length_append]
   have h1 := ih (by omega)
   have h2 : (wF l[i]).length <= 1048576 := by
     have := hs _ (List.getElem_mem hlt)
     unfold wF
     split
     ·rw [List.length_drop]; omega
     ·simp
   omega
theorem wl (m : ao) : (nX m).length <= 1 := by unfold nX; split <;> simp
theorem wg (f lo : Nat) (m : ao) (hsm : m.small 1048576) (h800 : m.store.objects.length <= 800) (hsem : ∀ o ∈ m.store.objects, o.kind = 3 -> 1 <= o.numbers.length) (hp1 : 1 <= m.processes.length) : Ct Tryz.prog GL 110 [.cp f (m.tw lo)] (abf m) := by
 refine aq Tryz.func110 rfl Tryz.ntmps110 rfl rfl fun w0 _ hG => ?_
 have hst := eg
 have hlo := au.len lo m.store.objects
 have hlp := ap.len lo m.processes
 have hpl := hsm.2.2.2.2.1.1
 have hrl := hsm.2.2.2.2.2.1
 have hrl2 := ar m.ready
 have hnum : ∀ o ∈ m.store.objects, o.numbers.length <= 1048576 := fun o h => (hsm.2.1.2.1.2 o h).2
 have hsl := fun (i : Nat) (h : i <= m.store.objects.length) => wc h hnum
 have hnl := wl m
 have hnow : nX m = if m.status = 0 then [m.now] else [] := rfl
 unfold abf
 unfold ao.tw
 repeat' (first | refine H_ 2 ?_ | ((with_reducible apply vU (n := 0)); rfl; rfl; kernel_rfl; kernel_rfl; rfl; kernel_rfl; rfl; rfl; rfl; rfl; intro ss bb))
 refine ⟨?_⟩
 generalize ss = s4; generalize bb = b4
 apply fK (X := Nat) [0] (fun b => [(4, .ms s4 b 0 (nX m).length)]) (fun b => [(s4, b, .row 1 (aR (nX m)))]) (fun _ => True)
 case hk => (repeat (first | exact jB.nil | (apply jB.cons; rfl)))
 ·rw [hnow]
  by_cases hs : m.status = 0
  ·rw [if_pos hs]
   repeat' (first | refine W_ ?_ | refine ch ?_ | ((with_reducible apply ux); rfl; rfl; rfl; kernel_rfl; (repeat (first | with_reducible exact mh | with_reducible refine mt ?_)); exact (rfl : _ = 1); omega; (intro bq; (repeat (first | with_reducible exact Upd.head _ | with_reducible apply Upd.tail))); intro bb))
   exact ee _ trivial (.of _ nw_ od_ pk_)
  ·rw [if_neg hs]
   repeat' refine W_ ?_
   exact ee b4 trivial (.of _ nw_ od_ pk_)
 clear hnow
 intro b5 _
 generalize hN0 : nX m = N0 at hnl |-
 have hap1 := rq N0 m.ready
 repeat' (first | refine W_ ?_ | ((with_reducible apply bx); rfl; rfl; rfl; kernel_rfl; (repeat (first | with_reducible exact mh | with_reducible refine mt ?_)); exact ar _; exact hrl2; omega; exact hap1; (intro bq; (repeat (first | with_reducible exact Upd.head _ | with_reducible apply Upd.tail))); intro bb))
 rw [<- List.length_append]
 apply ai (X := Nat × Nat × List Int) [0] (fun x => [(5, .int .i64 (x.1 : Int)), (4, .ms s4 x.2.1 0 x.2.2.length)]) (fun x => [(s4, x.2.1, .row 1 (aR x.2.2))]) (fun x => x.1 <= m.store.objects.length /\ x.2.2 = N0 ++ m.ready ++ (m.store.objects.take x.1).flatMap wF) (fun x => m.store.objects.length - x.1) (0, bb, N0 ++ m.ready) ⟨Nat.zero_le _, by simp⟩
 exact kp_; exact nw_
 ·exact .refl _
 rintro ⟨i, b6, A⟩ ⟨hi, hA⟩
 dsimp only at hi hA |-
 have hAl : A.length <= 1 + 1048576 + i * 1048576 := by
   rw [hA, List.length_append, List.length_append]
   have := hsl i hi
   omega
 by_cases hlt : i < m.store.objects.length
 ·have hrow := lK (lo := lo) hlt
  have hsn := oz hlt
  have hol := hnum _ (List.getElem_mem hlt)
  have hse := hsem _ (List.getElem_mem hlt)
  have hA2 : A ++ wF m.store.objects[i] = N0 ++ m.ready ++ (m.store.objects.take (i + 1)).flatMap wF := by rw [hsn, hA, List.append_assoc (N0 ++ m.ready)]
  clear hsn hsem hsl hnum
  generalize m.store.objects[i] = o at hrow hol hse hA2
  obtain ⟨ok, oc, fs, ns⟩ := o
  dsimp only at hrow hol hse
  unfold wF at hA2
  dsimp only at hA2
  have hnl2 := ar ns
  by_cases hk : ok = 3
  ·rw [if_pos hk] at hA2
   have h1 := hse hk
   have hdr := tp ns 1
   have hdl := ar (ns.drop 1)
   have hdl2 : (ns.drop 1).length <= 1048576 := by rw [List.length_drop]; omega
   have hap := rq A (ns.drop 1)
   repeat' (first | refine W_ ?_ | (refine ak ?_; intro ss bb) | refine ae ?_ | refine aeq ?_ | ((with_reducible apply bx); rfl; rfl; rfl; kernel_rfl; (repeat (first | with_reducible exact mh | with_reducible refine mt ?_)); exact ar _; exact hdl; omega; exact hap; (intro bq; (repeat (first | with_reducible exact Upd.head _ | with_reducible apply Upd.tail))); intro bb))
   rw [<- List.length_append]
   exact ah (i + 1, _, A ++ ns.drop 1) ⟨by dsimp only; omega, hA2⟩ (by dsimp only; omega) (.of _ nw_ od_ pk_)
  ·rw [if_neg hk, List.append_nil] at hA2
   repeat' (first | refine W_ ?_ | (refine ak ?_; intro ss bb) | refine ae ?_)
   exact ah (i + 1, b6, A) ⟨by dsimp only; omega, hA2⟩ (by dsimp only; omega) (.of _ nw_ od_ pk_)
 obtain rfl : i = m.store.objects.length := by omega
 rw [List.take_of_length_le (Nat.le_refl _)] at hA
 have hAe : A = nX m ++ m.ready ++ wC m := by rw [hA, hN0]; rfl
 have hT := afq hAe
 have hF := afm hAe
 generalize alO m = r at hT hF |-
 clear hA hAe hN0 hap1 hsl hsem hnum
 replace hAl : A.length <= 900000000 := by omega
 repeat' refine H_ 11 ?_
 refine ⟨?_⟩
 refine oq (t := 4) rfl (ar _) (.head _) ?_
 have hll := ar A
 repeat' refine W_ ?_
 apply ai (X := Nat) [0, 4] (fun i => [(7, .int .i64 (i : Int))]) (fun _ => []) (fun i => i <= A.length /\ (∀ p ∈ A.take i, 0 <= p /\ p < m.processes.length) /\ (A.take i).Nodup) (fun i => A.length - i) 0 ⟨Nat.zero_le _, by simp, by simp⟩
 exact kp_; exact nw_
 ·exact .refl _
 rintro i ⟨hi, hin, hnd⟩
 try dsimp only
 by_cases hlt : i < A.length
 case neg =>
   obtain rfl : i = A.length := by omega
   rw [List.take_of_length_le (Nat.le_refl _)] at hin hnd
   rw [hT ⟨hin, hnd⟩]
   repeat' refine W_ ?_
   refine ei x_ rfl (.tmp _ _ rfl) (.tmp _ _ rfl) (fun _ => ?_) (fun _ => ?_)
   ·exact Fin.slFlat (Nat.le_refl _) (kK _)
   ·exact Fin.flat rfl
 have hrow := j1 hlt
 have hta := aY (p := fun p : Int => 0 <= p /\ p < m.processes.length) hlt hin
 have hns := qW hlt hnd
 have hb1 : ¬ (0 <= A[i] /\ A[i] < m.processes.length) -> r = none := fun h => hF fun k => h (k.1 _ (List.getElem_mem hlt))
 have hb2 : A[i] ∈ A.take i -> r = none := fun h => hF fun k => sQ hlt h k.2
 have htk := tK A i
 have hhas := wy (G := GL) w0.heap.size (A.take i) A[i] (by rw [List.length_take]; omega)
 have k1 := bm (G := GL) A[i] 0 ((m.processes.length - 1 : Nat) : Int)
 generalize A[i] = p at hrow hta hns hb1 hb2 hhas k1
 by_cases hr : 0 <= p /\ p < m.processes.length
 case neg =>
   rw [show inR p 0 ((m.processes.length - 1 : Nat) : Int) = false from by simp only [inR, decide_eq_false_iff_not]; omega] at k1
   rw [hb1 hr]
   repeat' (first | refine V_ ?_ | refine ad hG hst (k1) ?_)
   refine ei x_ rfl (.tmp _ _ rfl) (.tmp _ _ rfl) (fun _ => ?_) (fun _ => ?_)
   ·exact .nils 1
   ·exact Fin.flat rfl
 rw [show inR p 0 ((m.processes.length - 1 : Nat) : Int) = true from by simp only [inR, decide_eq_true_eq]; omega] at k1
 by_cases hm : p ∈ A.take i
 ·rw [decide_eq_true hm] at hhas
  rw [hb2 hm]
  repeat' (first | refine V_ ?_ | refine ko ?_ | refine ad hG hst (k1) ?_ | refine ad hG hst (hhas) ?_)
  refine ei x_ rfl (.tmp _ _ rfl) (.tmp _ _ rfl) (fun _ => ?_) (fun _ => ?_)
  ·exact .nils 1
  ·exact Fin.flat rfl
 ·rw [decide_eq_false hm] at hhas
  repeat' (first | refine V_ ?_ | refine ko ?_ | refine ad hG hst (k1) ?_ | refine ad hG hst (hhas) ?_)
  exact ah (i + 1) ⟨by omega, hta hr, hns hm⟩ (by omega) (.of _ nw_ od_ pk_)
end Go.Proofs.YtigipcbnfeoliaaGreatDoor
