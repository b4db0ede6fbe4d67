/- Part 27 of the proof: the texts ImN, ImP, ImQ. -/
import Derived.Test.YtofnnnpahglfdaaGreatDoorFo21
import Derived.Test.YtofnnnpahglfdaaGreatDoorFo26
import Derived.Test.YtofnnnpahglfdaaGreatDoorFo3
import Derived.Test.YtofnnnpahglfdaaGreatDoorFo12
import Derived.Test.YtofnnnpahglfdaaGreatDoorFo7
set_option linter.all false
set_option maxHeartbeats 4000000
set_option maxRecDepth 20000
namespace Go.Proofs.YtofnnnpahglfdaaGreatDoor
open Go Go.RowKit
open Classical in
noncomputable def yH (m : ai) (n0 n1 n2 : Int) : Bool := decide (zt m n0 n1 n2)
open Classical in
theorem qY {m : ai} {n0 n1 n2 : Int} (h : ¬ zt m n0 n1 n2) : yH m n0 n1 n2 = false := decide_eq_false h
open Classical in
theorem vx {m : ai} {n0 n1 n2 : Int} (h : zt m n0 n1 n2) : yH m n0 n1 n2 = true := decide_eq_true h
theorem mR {m : ai} {n0 n2 : Int} : zt m n0 (-1) n2 ↔ n0 = -1 /\ n2 = 0 := by
 unfold zt
 rw [aab (by omega)]
 constructor
 ·rintro (⟨h1, _, h2⟩ | ⟨_, c, hc, _⟩)
  ·exact ⟨h1, h2⟩
  ·cases hc
 ·rintro ⟨h1, h2⟩; exact .inl ⟨h1, rfl, h2⟩
theorem wK {m : ai} {n0 n2 : Int} {u : Nat} (hu : u < m.contexts.length) : zt m n0 (u : Int) n2 ↔ n2 = 1 /\ m.contexts[u].mark = 3 /\ 0 <= n0 /\ OnW m n0 m.contexts[u].sender := by
 unfold zt
 rw [jG hu]
 constructor
 ·rintro (⟨_, h, _⟩ | ⟨h2, c, hc, h3⟩)
  ·omega
  ·cases hc; exact ⟨h2, h3⟩
 ·rintro ⟨h2, h3⟩; exact .inr ⟨h2, _, rfl, h3⟩
theorem wU {m : ai} {n0 n1 n2 : Int} (h : n1 ≠ -1) (hu : ¬ (0 <= n1 /\ n1 < m.contexts.length)) : ¬ zt m n0 n1 n2 := by
 rintro (⟨_, h1, _⟩ | ⟨_, c, hc, _⟩)
 ·exact h h1
 ·obtain ⟨h0, h1, _⟩ := j7 hc; omega
theorem xj {m : ai} {n0 n1 n2 : Int} (h : n1 ≠ -1) (h2 : n2 ≠ 1) : ¬ zt m n0 n1 n2 := by
 rintro (⟨_, h1, _⟩ | ⟨h1, _⟩)
 ·exact h h1
 ·exact h2 h1
open Classical in
theorem zZ {m : ai} {a k : Int} : onB m a k = true ↔ OnW m a k := decide_eq_true_iff
theorem jW {l : List Int} {i : Nat} (h : i < l.length) : (aS l)[i]? = some [.int .i64 l[i]] := aM h
theorem oD {G : World -> Prop} (l1 l2 : Nat) (a b : List Int) (hn : a.length <= 1048576) (hm : b.length <= 1048576) : Ct Tryz.prog G 271 [.sl l1 1 (aS a), .sl l2 1 (aS b)] (fun _ => .bool (decide (a = b))) := by
 refine am Tryz.func271 rfl Tryz.ntmps271 rfl rfl fun w0 _ hG => ?_
 have hla := ao a
 have hlb := ao b
 by_cases hl : a.length = b.length
 ·repeat' refine W_ ?_
  apply ak (X := Nat) [0, 1, 12] (fun i => [(13, .int .i64 (i : Int))]) (fun _ => []) (fun i => i <= a.length /\ a.take i = b.take i) (fun i => a.length - i) 0 ⟨Nat.zero_le _, by simp⟩
  exact kp_; exact nw_
  ·exact .refl _
  rintro i ⟨hi, hs⟩
  try dsimp only
  by_cases hlt : i < a.length
  ·have hr1 := jW hlt
   have hlt2 : i < b.length := by omega
   have hr2 := jW hlt2
   have hta : a[i] = b[i] -> a.take (i + 1) = b.take (i + 1) := fun e => by rw [List.take_add_one, List.take_add_one, hs, List.getElem?_eq_getElem hlt, List.getElem?_eq_getElem hlt2, e]
   have hne : a[i] ≠ b[i] -> decide (a = b) = false := fun h => decide_eq_false fun e => h (by subst e; rfl)
   generalize a[i] = x at hr1 hta hne
   generalize b[i] = y at hr2 hta hne
   by_cases hx : x = y
   ·have hx' : ¬ x ≠ y := fun h => h hx
    repeat' refine V_ ?_
    exact ag (i + 1) ⟨by omega, hta hx⟩ (by omega) (.of _ nw_ od_ pk_)
   ·have hx' : x ≠ y := hx
    rw [hne hx]
    repeat' refine V_ ?_
    exact r1_
  ·rw [List.take_of_length_le (by omega), List.take_of_length_le (by omega)] at hs
   rw [decide_eq_true hs]
   repeat' refine W_ ?_
   exact r1_
 ·rw [decide_eq_false (p := a = b) fun e => hl (by rw [e])]
  repeat' refine W_ ?_
  exact r1_
theorem pa {G : World -> Prop} (hst : aB G) (l1 l2 : Nat) (a b : List Int) (hn : a.length <= 1048576) (hm : b.length <= 1048576) : Ct Tryz.prog G 204 [.sl l1 1 (aS a), .sl l2 1 (aS b)] (fun _ => .bool (decide (a = b))) := by
 refine am Tryz.func204 rfl Tryz.ntmps204 rfl rfl fun w0 _ hG => ?_
 repeat' (first | refine W_ ?_ | refine ab hG hst (oD l1 l2 a b hn hm) ?_)
 exact r1_
theorem oX (lo l2 : Nat) (m : ai) (hsm : m.small 1048576) (hsd : fE m) (n0 n1 n2 : Int) : Ct Tryz.prog GL 123 [.agg (m.tw lo), .sl l2 1 [[.int .i64 n0], [.int .i64 n1], [.int .i64 n2]]] (fun _ => .bool (yH m n0 n1 n2)) := by
 refine am Tryz.func123 rfl Tryz.ntmps123 rfl rfl fun w0 _ hG => ?_
 have hst := dA
 have hlx := ap.len lo m.contexts
 have hxl := hsm.2.2.2.1.1
 have hon := fun (k0 a : Int) h => xl (G := GL) w0.heap.size lo m hxl hsd k0 a h
 have hxr := fun (i : Nat) (h : i < m.contexts.length) => cx (lo := lo) (l := m.contexts) h
 have hsn := pa hst l2 w0.heap.size [n0, n1, n2] [-1, -1, 0] (by simp) (by simp)
 simp only [aS, List.map_cons, List.map_nil] at hsn
 unfold ai.tw at hon |-
 by_cases h1 : n1 = -1
 ·subst h1
  by_cases h0 : n0 = -1 /\ n2 = 0
  ·obtain ⟨rfl, rfl⟩ := h0
   rw [vx (mR.2 ⟨rfl, rfl⟩)]
   rw [decide_eq_true rfl] at hsn
   repeat' (first | refine W_ ?_ | refine aD ?_ | refine cH ?_ | refine ab hG hst (hsn) ?_)
   exact r1_
  rw [qY fun h => h0 (mR.1 h)]
  rw [decide_eq_false fun e => h0 (by simp at e; exact e)] at hsn
  have k1 := aN (G := GL) (-1) 0 ((m.contexts.length : Int) - 1)
  rw [show inR (-1) 0 ((m.contexts.length : Int) - 1) = false from by simp only [inR, decide_eq_false_iff_not]; omega] at k1
  have k2 := aN (G := GL) (-1) 0 ((m.contexts.length - 1 : Nat) : Int)
  rw [show inR (-1) 0 ((m.contexts.length - 1 : Nat) : Int) = false from by simp only [inR, decide_eq_false_iff_not]; omega] at k2
  by_cases hz : 1 <= m.contexts.length
  all_goals
    repeat' (first | refine V_ ?_ | refine aD ?_ | refine cH ?_ | refine ab hG hst (hsn) ?_ | refine ae hG hst (k1) ?_ | refine ae hG hst (k2) ?_ | refine g_ (fun hg => ?_) (fun hg => ?_))
    all_goals
      exact r1_
 rw [decide_eq_false fun e => h1 (by simp at e; exact e.2.1)] at hsn
 by_cases h2 : n2 = 1
 case neg =>
   rw [qY (xj h1 h2)]
   repeat' (first | refine V_ ?_ | refine aD ?_ | refine cH ?_ | refine ab hG hst (hsn) ?_)
   exact r1_
 have k1 := aN (G := GL) n1 0 ((m.contexts.length : Int) - 1)
 by_cases hin : 0 <= n1 /\ n1 < m.contexts.length
 case neg =>
   rw [qY (wU h1 hin)]
   rw [show inR n1 0 ((m.contexts.length : Int) - 1) = false from by simp only [inR, decide_eq_false_iff_not]; omega] at k1
   by_cases hz : 1 <= m.contexts.length
   ·rw [show (m.contexts.length : Int) - 1 = ((m.contexts.length - 1 : Nat) : Int) by omega] at k1
    repeat' (first | refine V_ ?_ | refine aD ?_ | refine cH ?_ | refine ab hG hst (hsn) ?_ | refine ae hG hst (k1) ?_)
    exact r1_
   ·repeat' (first | refine V_ ?_ | refine aD ?_ | refine cH ?_ | refine ab hG hst (hsn) ?_ | refine ae hG hst (k1) ?_)
    exact r1_
 rw [show inR n1 0 ((m.contexts.length : Int) - 1) = true from by simp only [inR, decide_eq_true_eq]; omega] at k1
 rw [show (m.contexts.length : Int) - 1 = ((m.contexts.length - 1 : Nat) : Int) by omega] at k1
 obtain ⟨u, rfl⟩ : ∃ u : Nat, n1 = u := ⟨n1.toNat, by omega⟩
 have hu : u < m.contexts.length := by omega
 have hru := hxr u hu
 have hiff := wK (m := m) (n0 := n0) (n2 := n2) hu
 have hsu := hsd u hu
 have hot := hon m.contexts[u].sender n0 (by omega)
 have hob : onB m n0 m.contexts[u].sender = true ↔ OnW m n0 m.contexts[u].sender := zZ
 generalize onB m n0 m.contexts[u].sender = b at hot hob
 rw [<- hob] at hiff
 generalize m.contexts[u] = c at hru hiff hot
 have hF := qY (m := m) (n0 := n0) (n1 := (u : Int)) (n2 := n2)
 have hT := vx (m := m) (n0 := n0) (n1 := (u : Int)) (n2 := n2)
 rw [hiff] at hF hT
 generalize yH m n0 (u : Int) n2 = V at hF hT |-
 by_cases h3 : c.mark = 3
 case neg =>
   rw [hF fun h => h3 h.2.1]
   repeat' (first | refine V_ ?_ | refine aD ?_ | refine cH ?_ | refine ab hG hst (hsn) ?_ | refine ae hG hst (k1) ?_)
   exact r1_
 by_cases h0 : 0 <= n0
 case neg =>
   rw [hF fun h => h0 h.2.2.1]
   repeat' (first | refine V_ ?_ | refine aD ?_ | refine cH ?_ | refine ab hG hst (hsn) ?_ | refine ae hG hst (k1) ?_)
   exact r1_
 cases b
 ·rw [hF fun h => by have := h.2.2.2; cases this]
  repeat' (first | refine V_ ?_ | refine aD ?_ | refine cH ?_ | refine ab hG hst (hsn) ?_ | refine ae hG hst (k1) ?_ | refine ae hG hst (hot) ?_)
  exact r1_
 ·rw [hT ⟨h2, h3, h0, rfl⟩]
  repeat' (first | refine V_ ?_ | refine aD ?_ | refine cH ?_ | refine ab hG hst (hsn) ?_ | refine ae hG hst (k1) ?_ | refine ae hG hst (hot) ?_)
  exact r1_
theorem ld {lo : Nat} {l : List ay} {i : Nat} (h : i < l.length) : (l.map (ay.tw lo))[i]? = some [.int .i64 l[i].kind, .int .i64 l[i].class_, .sl lo 3 (l[i].fields.map (ad.tw lo)), .sl lo 1 (aS l[i].numbers)] := aM h
theorem aeZ {m : ai} {oc : Int} {fs : List ad} {n0 n1 n2 : Int} : xA m ⟨1, oc, fs, [n0, n1, n2]⟩ ↔ zt m n0 n1 n2 := by
 unfold xA
 constructor
 ·intro h; exact h rfl n0 n1 n2 rfl
 ·intro h _ a b c e
  simp only [List.cons.injEq] at e
  obtain ⟨rfl, rfl, rfl, _⟩ := e
  exact h
open Classical in
noncomputable def ve (m : ai) : Bool := decide (∀ o ∈ m.store.objects, xA m o)
open Classical in
theorem aeU {m : ai} {o : ay} (ho : o ∈ m.store.objects) (h : ¬ xA m o) : ve m = false := decide_eq_false fun k => h (k o ho)
open Classical in
theorem afi {m : ai} (h : ∀ o ∈ m.store.objects, xA m o) : ve m = true := decide_eq_true h
theorem aeT {l : List Int} (h : l.length = 3) : ∃ a b c, l = [a, b, c] := by
 match l, h with
 | [a, b, c], _ => exact ⟨a, b, c, rfl⟩
section
variable {G : World -> Prop}
theorem vB (lo : Nat) (l : List Int) (v : Int) (hn : l.length <= 1000000000) : Ct Tryz.prog G 185 [.sl lo 1 (aS l), .int .i64 v] (fun _ => .bool (decide (v ∈ l))) := by
 refine am Tryz.func185 rfl Tryz.ntmps185 rfl rfl fun w0 _ hG => ?_
 have hlen := ao l
 repeat' refine W_ ?_
 apply ak (X := Nat) [0, 1] (fun i => [(5, .int .i64 (i : Int))]) (fun _ => []) (fun i => i <= l.length /\ ∀ y ∈ l.take i, y ≠ v) (fun i => l.length - i) 0 ⟨Nat.zero_le _, by simp⟩
 exact kp_; exact nw_
 ·exact .refl _
 rintro i ⟨hi, hs⟩
 try dsimp only
 by_cases hlt : i < l.length
 ·have hrow := jW hlt
  have hta := aV (p := fun y => y ≠ v) hlt hs
  have hmm := List.getElem_mem hlt
  generalize l[i] = x at hrow hta hmm
  by_cases hx : x = v
  ·rw [decide_eq_true (hx ▸ hmm)]
   repeat' refine W_ ?_
   exact r1_
  ·repeat' refine W_ ?_
   exact ag (i + 1) ⟨by omega, hta hx⟩ (by omega) (.of _ nw_ od_ pk_)
 ·rw [List.take_of_length_le (by omega)] at hs
  rw [decide_eq_false fun h => hs v h rfl]
  repeat' refine W_ ?_
  exact r1_
end
def nX (m : ai) (L : List Int) : Prop := (∀ p ∈ L, 0 <= p /\ p < m.processes.length) /\ L.Nodup
open Classical in
noncomputable def alO (m : ai) : Option (List Int) := if nX m (nl m ++ m.ready ++ vG m) then some (nl m ++ m.ready ++ vG m) else none
open Classical in
theorem af1 {m : ai} {L : List Int} (e : L = nl m ++ m.ready ++ vG m) (h : nX m L) : alO m = some L := by subst e; exact if_pos h
open Classical in
theorem aft {m : ai} {L : List Int} (e : L = nl m ++ m.ready ++ vG m) (h : ¬ nX m L) : alO m = none := by subst e; exact if_neg h
open Classical in
theorem acj {m : ai} {L : List Int} (h : alO m = some L) : L = nl m ++ m.ready ++ vG m /\ nX m L := by
 unfold alO at h
 split at h
 ·rename_i hp
  cases h
  exact ⟨rfl, hp⟩
 ·cases h
open Classical in
theorem acv {m : ai} (h : alO m = none) : ¬ nX m (nl m ++ m.ready ++ vG m) := by
 unfold alO at h
 split at h
 ·cases h
 ·assumption
noncomputable def zR (m : ai) (K : Nat) : TV := .tup [.sl K 1 (aS ((alO m).getD [])), .bool (alO m).isSome]
theorem pV {L : List Int} {i : Nat} (h : i < L.length) (hn : (L.take i).Nodup) (hx : L[i] ∉ L.take i) : (L.take (i + 1)).Nodup := by
 rw [ed h, List.nodup_append]
 refine ⟨hn, by simp, fun a ha b hb e => ?_⟩
 rw [List.mem_singleton] at hb
 subst hb
 exact hx (e ▸ ha)
theorem sU {L : List Int} {i : Nat} (h : i < L.length) (hx : L[i] ∈ L.take i) : ¬ L.Nodup := fun hn => by
 rw [<- List.take_append_drop i L, List.nodup_append] at hn
 exact hn.2.2 _ hx L[i] (by rw [List.drop_eq_getElem_cons h]; exact List.mem_cons_self) rfl
theorem q6 (a b : List Int) : aS a ++ aS b = aS (a ++ b) := by simp [aS]
theorem tW (a : List Int) (n : Nat) : (aS a).drop n = aS (a.drop n) := by simp [aS]
theorem tV (a : List Int) (n : Nat) : (aS a).take n = aS (a.take n) := by simp [aS]
theorem oI {l : List ay} {i : Nat} (h : i < l.length) : (l.take (i + 1)).flatMap wB = (l.take i).flatMap wB ++ wB l[i] := by
 rw [ed h, List.flatMap_append]; simp
theorem vZ {l : List ay} {i : Nat} (hi : i <= l.length) (hs : ∀ o ∈ l, o.numbers.length <= 1048576) : ((l.take i).flatMap wB).length <= i * 1048576 := by
 induction i with
 | zero => simp
 | succ i ih =>
   have hlt : i < l.length := by omega
   rw [oI hlt, List.length_append]
   have h1 := ih (by omega)
   have h2 : (wB l[i]).length <= 1048576 := by
     have := hs _ (List.getElem_mem hlt)
     unfold wB
     split
     ·rw [List.length_drop]; omega
     ·simp
   omega
theorem vU (m : ai) : (nl m).length <= 1 := by unfold nl; split <;> simp
theorem vh (f lo : Nat) (m : ai) (hsm : m.small 1048576) (h800 : m.store.objects.length <= 800) (hsem : ∀ o ∈ m.store.objects, o.kind = 3 -> 1 <= o.numbers.length) (hp1 : 1 <= m.processes.length) : Ct Tryz.prog GL 105 [.cp f (m.tw lo)] (zR m) := by
 refine am Tryz.func105 rfl Tryz.ntmps105 rfl rfl fun w0 _ hG => ?_
 have hst := dA
 have hlo := ay.len lo m.store.objects
 have hlp := au.len lo m.processes
 have hpl := hsm.2.2.2.2.1.1
 have hrl := hsm.2.2.2.2.2.1
 have hrl2 := ao m.ready
 have hnum : ∀ o ∈ m.store.objects, o.numbers.length <= 1048576 := fun o h => (hsm.2.1.2.1.2 o h).2
 have hsl := fun (i : Nat) (h : i <= m.store.objects.length) => vZ h hnum
 have hnl := vU m
 have hnow : nl m = if m.status = 0 then [m.now] else [] := rfl
 unfold zR
 unfold ai.tw
 repeat' (first | refine H_ 2 ?_ | ((with_reducible apply o9 (n := 0)); rfl; rfl; kernel_rfl; kernel_rfl; rfl; kernel_rfl; rfl; rfl; rfl; rfl; intro ss bb))
 refine ⟨?_⟩
 generalize ss = s4; generalize bb = b4
 apply fh (X := Nat) [0] (fun b => [(4, .ms s4 b 0 (nl m).length)]) (fun b => [(s4, b, .row 1 (aS (nl m)))]) (fun _ => True)
 case hk => (repeat (first | exact jq.nil | (apply jq.cons; rfl)))
 ·rw [hnow]
  by_cases hs : m.status = 0
  ·rw [if_pos hs]
   repeat' (first | refine W_ ?_ | refine cH ?_ | ((with_reducible apply sW); rfl; rfl; rfl; kernel_rfl; (repeat (first | with_reducible exact mh | with_reducible refine mt ?_)); exact (rfl : _ = 1); omega; (intro bq; (repeat (first | with_reducible exact Upd.head _ | with_reducible apply Upd.tail))); intro bb))
   exact dV _ trivial (.of _ nw_ od_ pk_)
  ·rw [if_neg hs]
   repeat' refine W_ ?_
   exact dV b4 trivial (.of _ nw_ od_ pk_)
 clear hnow
 intro b5 _
 generalize hN0 : nl m = N0 at hnl |-
 have hap1 := q6 N0 m.ready
 repeat' (first | refine W_ ?_ | ((with_reducible apply ck); rfl; rfl; rfl; kernel_rfl; (repeat (first | with_reducible exact mh | with_reducible refine mt ?_)); exact ao _; exact hrl2; omega; exact hap1; (intro bq; (repeat (first | with_reducible exact Upd.head _ | with_reducible apply Upd.tail))); intro bb))
 rw [<- List.length_append]
 apply ak (X := Nat × Nat × List Int) [0] (fun x => [(5, .int .i64 (x.1 : Int)), (4, .ms s4 x.2.1 0 x.2.2.length)]) (fun x => [(s4, x.2.1, .row 1 (aS x.2.2))]) (fun x => x.1 <= m.store.objects.length /\ x.2.2 = N0 ++ m.ready ++ (m.store.objects.take x.1).flatMap wB) (fun x => m.store.objects.length - x.1) (0, bb, N0 ++ m.ready) ⟨Nat.zero_le _, by simp⟩
 exact kp_; exact nw_
 ·exact .refl _
 rintro ⟨i, b6, A⟩ ⟨hi, hA⟩
 dsimp only at hi hA |-
 have hAl : A.length <= 1 + 1048576 + i * 1048576 := by
   rw [hA, List.length_append, List.length_append]
   have := hsl i hi
   omega
 by_cases hlt : i < m.store.objects.length
 ·have hrow := ld (lo := lo) hlt
  have hsn := oI hlt
  have hol := hnum _ (List.getElem_mem hlt)
  have hse := hsem _ (List.getElem_mem hlt)
  have hA2 : A ++ wB m.store.objects[i] = N0 ++ m.ready ++ (m.store.objects.take (i + 1)).flatMap wB := by rw [hsn, hA, List.append_assoc (N0 ++ m.ready)]
  clear hsn hsem hsl hnum
  generalize m.store.objects[i] = o at hrow hol hse hA2
  obtain ⟨ok, oc, fs, ns⟩ := o
  dsimp only at hrow hol hse
  unfold wB at hA2
  dsimp only at hA2
  have hnl2 := ao ns
  by_cases hk : ok = 3
  ·rw [if_pos hk] at hA2
   have h1 := hse hk
   have hdr := tW ns 1
   have hdl := ao (ns.drop 1)
   have hdl2 : (ns.drop 1).length <= 1048576 := by rw [List.length_drop]; omega
   have hap := q6 A (ns.drop 1)
   repeat' (first | refine W_ ?_ | (refine aj ?_; intro ss bb) | refine ac ?_ | refine aeD ?_ | ((with_reducible apply ck); rfl; rfl; rfl; kernel_rfl; (repeat (first | with_reducible exact mh | with_reducible refine mt ?_)); exact ao _; exact hdl; omega; exact hap; (intro bq; (repeat (first | with_reducible exact Upd.head _ | with_reducible apply Upd.tail))); intro bb))
   rw [<- List.length_append]
   exact ag (i + 1, _, A ++ ns.drop 1) ⟨by dsimp only; omega, hA2⟩ (by dsimp only; omega) (.of _ nw_ od_ pk_)
  ·rw [if_neg hk, List.append_nil] at hA2
   repeat' (first | refine W_ ?_ | (refine aj ?_; intro ss bb) | refine ac ?_)
   exact ag (i + 1, b6, A) ⟨by dsimp only; omega, hA2⟩ (by dsimp only; omega) (.of _ nw_ od_ pk_)
 obtain rfl : i = m.store.objects.length := by omega
 rw [List.take_of_length_le (Nat.le_refl _)] at hA
 have hAe : A = nl m ++ m.ready ++ vG m := by rw [hA, hN0]; rfl
 have hT := af1 hAe
 have hF := aft hAe
 generalize alO m = r at hT hF |-
 clear hA hAe hN0 hap1 hsl hsem hnum
 replace hAl : A.length <= 900000000 := by omega
 repeat' refine H_ 11 ?_
 refine ⟨?_⟩
 refine nf (t := 4) rfl (ao _) (.head _) ?_
 have hll := ao A
 repeat' refine W_ ?_
 apply ak (X := Nat) [0, 4] (fun i => [(7, .int .i64 (i : Int))]) (fun _ => []) (fun i => i <= A.length /\ (∀ p ∈ A.take i, 0 <= p /\ p < m.processes.length) /\ (A.take i).Nodup) (fun i => A.length - i) 0 ⟨Nat.zero_le _, by simp, by simp⟩
 exact kp_; exact nw_
 ·exact .refl _
 rintro i ⟨hi, hin, hnd⟩
 try dsimp only
 by_cases hlt : i < A.length
 case neg =>
   obtain rfl : i = A.length := by omega
   rw [List.take_of_length_le (Nat.le_refl _)] at hin hnd
   rw [hT ⟨hin, hnd⟩]
   repeat' refine W_ ?_
   refine cZ x_ rfl (.tmp _ _ rfl) (.tmp _ _ rfl) (fun _ => ?_) (fun _ => ?_)
   ·exact Fin.slFlat (Nat.le_refl _) (kU _)
   ·exact Fin.flat rfl
 have hrow := jW hlt
 have hta := aV (p := fun p : Int => 0 <= p /\ p < m.processes.length) hlt hin
 have hns := pV hlt hnd
 have hb1 : ¬ (0 <= A[i] /\ A[i] < m.processes.length) -> r = none := fun h => hF fun k => h (k.1 _ (List.getElem_mem hlt))
 have hb2 : A[i] ∈ A.take i -> r = none := fun h => hF fun k => sU hlt h k.2
 have htk := tV A i
 have hhas := vB (G := GL) w0.heap.size (A.take i) A[i] (by rw [List.length_take]; omega)
 have k1 := a7 (G := GL) A[i] 0 ((m.processes.length - 1 : Nat) : Int)
 generalize A[i] = p at hrow hta hns hb1 hb2 hhas k1
 by_cases hr : 0 <= p /\ p < m.processes.length
 case neg =>
   rw [show inR p 0 ((m.processes.length - 1 : Nat) : Int) = false from by simp only [inR, decide_eq_false_iff_not]; omega] at k1
   rw [hb1 hr]
   repeat' (first | refine V_ ?_ | refine ae hG hst (k1) ?_)
   refine cZ x_ rfl (.tmp _ _ rfl) (.tmp _ _ rfl) (fun _ => ?_) (fun _ => ?_)
   ·exact .nils 1
   ·exact Fin.flat rfl
 rw [show inR p 0 ((m.processes.length - 1 : Nat) : Int) = true from by simp only [inR, decide_eq_true_eq]; omega] at k1
 by_cases hm : p ∈ A.take i
 ·rw [decide_eq_true hm] at hhas
  rw [hb2 hm]
  repeat' (first | refine V_ ?_ | refine kH ?_ | refine ae hG hst (k1) ?_ | refine ae hG hst (hhas) ?_)
  refine cZ x_ rfl (.tmp _ _ rfl) (.tmp _ _ rfl) (fun _ => ?_) (fun _ => ?_)
  ·exact .nils 1
  ·exact Fin.flat rfl
 ·rw [decide_eq_false hm] at hhas
  repeat' (first | refine V_ ?_ | refine kH ?_ | refine ae hG hst (k1) ?_ | refine ae hG hst (hhas) ?_)
  exact ag (i + 1) ⟨by omega, hta hr, hns hm⟩ (by omega) (.of _ nw_ od_ pk_)
end Go.Proofs.YtofnnnpahglfdaaGreatDoor
