/- Part 43 of the proof: the texts ImQ. -/
import Derived.Test.YtiihihgjiklnoaaGreatDoorQb36
import Derived.Test.YtiihihgjiklnoaaGreatDoorQb21
import Derived.Test.YtiihihgjiklnoaaGreatDoorQb14
/- IsImage: the processes that can go on, the reference's side. -/
namespace Go.Proofs.YtiihihgjiklnoaaGreatDoor
set_option maxRecDepth 20000
set_option maxHeartbeats 2000000
open Go Go.RowKit
section
variable {G : World → Prop}
theorem ui (lo : Nat) (l : List Int) (v : Int) (hn : l.length ≤ 1000000000) : Ct Tryz.prog G 232 [.sl lo 1 (aO l), .int .i64 v] (fun _ => .bool (decide (v ∈ l))) := by
  refine ao Tryz.func232 rfl Tryz.ntmps232 rfl rfl fun w0 _ hG => ?_
  have hlen := aq l
  repeat' (first | refine W_ ?_ | refine c_ (fun hc => ?_) (fun hc => ?_) | refine g_ (fun hg => ?_) (fun hg => ?_))
  apply aj (X := Nat) [0, 1] (fun i => [(5, .int .i64 (i : Int))]) (fun _ => []) (fun i => i ≤ l.length ∧ ∀ y ∈ l.take i, y ≠ v) (fun i => l.length - i) 0 ⟨Nat.zero_le _, by simp⟩
  exact kp_; exact nw_
  · exact .refl _
  rintro i ⟨hi, hs⟩
  try dsimp only
  by_cases hlt : i < l.length
  · have hrow := jw hlt
    have hta := aT (p := fun y => y ≠ v) hlt hs
    have hmm := List.getElem_mem hlt
    generalize l[i] = x at hrow hta hmm
    by_cases hx : x = v
    · rw [decide_eq_true (hx ▸ hmm)]
      repeat' (first | refine W_ ?_ | refine c_ (fun hc => ?_) (fun hc => ?_) | refine g_ (fun hg => ?_) (fun hg => ?_))
      exact r1_
    · repeat' (first | refine W_ ?_ | refine c_ (fun hc => ?_) (fun hc => ?_) | refine g_ (fun hg => ?_) (fun hg => ?_))
      exact ah (i + 1) ⟨by omega, hta hx⟩ (by omega) (.of _ nw_ od_ pk_)
  · rw [List.take_of_length_le (by omega)] at hs
    rw [decide_eq_false fun h => hs v h rfl]
    repeat' (first | refine W_ ?_ | refine c_ (fun hc => ?_) (fun hc => ?_) | refine g_ (fun hg => ?_) (fun hg => ?_))
    exact r1_
end
def mw (m : ak) (L : List Int) : Prop := (∀ p ∈ L, 0 ≤ p ∧ p < m.processes.length) ∧ L.Nodup
open Classical in
noncomputable def alO (m : ak) : Option (List Int) := if mw m (mS m ++ m.ready ++ sU m) then some (mS m ++ m.ready ++ sU m) else none
open Classical in
theorem adt {m : ak} {L : List Int} (e : L = mS m ++ m.ready ++ sU m) (h : mw m L) : alO m = some L := by subst e; exact if_pos h
open Classical in
theorem adj {m : ak} {L : List Int} (e : L = mS m ++ m.ready ++ sU m) (h : ¬ mw m L) : alO m = none := by subst e; exact if_neg h
open Classical in
theorem aaA {m : ak} {L : List Int} (h : alO m = some L) : L = mS m ++ m.ready ++ sU m ∧ mw m L := by
  unfold alO at h
  split at h
  · rename_i hp
    cases h
    exact ⟨rfl, hp⟩
  · cases h
open Classical in
theorem zX {m : ak} (h : alO m = none) : ¬ mw m (mS m ++ m.ready ++ sU m) := by
  unfold alO at h
  split at h
  · cases h
  · assumption
noncomputable def xL (m : ak) (K : Nat) : TV := .tup [.sl K 1 (aO ((alO m).getD [])), .bool (alO m).isSome]
theorem o6 {L : List Int} {i : Nat} (h : i < L.length) (hn : (L.take i).Nodup) (hx : L[i] ∉ L.take i) : (L.take (i + 1)).Nodup := by
  rw [dV h, List.nodup_append]
  refine ⟨hn, by simp, fun a ha b hb e => ?_⟩
  rw [List.mem_singleton] at hb
  subst hb
  exact hx (e ▸ ha)
theorem sC {L : List Int} {i : Nat} (h : i < L.length) (hx : L[i] ∈ L.take i) : ¬ L.Nodup := fun hn => by
  rw [← List.take_append_drop i L, List.nodup_append] at hn
  exact hn.2.2 _ hx L[i] (by rw [List.drop_eq_getElem_cons h]; exact List.mem_cons_self) rfl
theorem pW (a b : List Int) : aO a ++ aO b = aO (a ++ b) := by simp [aO]
theorem sw (a : List Int) (n : Nat) : (aO a).drop n = aO (a.drop n) := by simp [aO]
theorem rz (a : List Int) (n : Nat) : (aO a).take n = aO (a.take n) := by simp [aO]
theorem mB {l : List au} {i : Nat} (h : i < l.length) : (l.take (i + 1)).flatMap tn = (l.take i).flatMap tn ++ tn l[i] := by
  rw [dV h, List.flatMap_append]; simp
theorem sW {l : List au} {i : Nat} (hi : i ≤ l.length) (hs : ∀ o ∈ l, o.numbers.length ≤ 1048576) : ((l.take i).flatMap tn).length ≤ i * 1048576 := by
  induction i with
  | zero => simp
  | succ i ih =>
    have hlt : i < l.length := by omega
    rw [mB hlt, List.length_append]
    have h1 := ih (by omega)
    have h2 : (tn l[i]).length ≤ 1048576 := by
      have := hs _ (List.getElem_mem hlt)
      unfold tn
      split
      · rw [List.length_drop]; omega
      · simp
    omega
theorem ur (m : ak) : (mS m).length ≤ 1 := by unfold mS; split <;> simp
set_option maxHeartbeats 4000000 in
theorem sR (f lo : Nat) (m : ak) (hsm : m.small 1048576) (h800 : m.store.objects.length ≤ 800) (hsem : ∀ o ∈ m.store.objects, o.kind = 3 → 1 ≤ o.numbers.length) (hp1 : 1 ≤ m.processes.length) : Ct Tryz.prog GL 168 [.cp f (m.tw lo)] (xL m) := by
  refine ao Tryz.func168 rfl Tryz.ntmps168 rfl rfl fun w0 _ hG => ?_
  have hst := df
  have hlo := au.len lo m.store.objects
  have hlp := ar.len lo m.processes
  have hpl := hsm.2.2.2.2.1.1
  have hrl := hsm.2.2.2.2.2.1
  have hrl2 := aq m.ready
  have hnum : ∀ o ∈ m.store.objects, o.numbers.length ≤ 1048576 := fun o h => (hsm.2.1.2.1.2 o h).2
  have hsl := fun (i : Nat) (h : i ≤ m.store.objects.length) => sW h hnum
  have hnl := ur m
  have hnow : mS m = if m.status = 0 then [m.now] else [] := rfl
  unfold xL
  unfold ak.tw
  repeat' (first | refine H_ 2 ?_ | ((with_reducible apply p9 (n := 0)); rfl; rfl; kernel_rfl; kernel_rfl; rfl; kernel_rfl; rfl; rfl; rfl; rfl; intro ss bb) | refine c_ (fun hc => ?_) (fun hc => ?_) | refine g_ (fun hg => ?_) (fun hg => ?_))
  refine ⟨?_⟩
  generalize ss = s4; generalize bb = b4
  apply fc (X := Nat) [0] (fun b => [(4, .ms s4 b 0 (mS m).length)]) (fun b => [(s4, b, .row 1 (aO (mS m)))]) (fun _ => True)
  case hk => (repeat (first | exact iO.nil | (apply iO.cons; rfl)))
  · rw [hnow]
    by_cases hs : m.status = 0
    · rw [if_pos hs]
      repeat' (first | refine W_ ?_ | refine dA ?_ | ((with_reducible apply mX); rfl; rfl; rfl; kernel_rfl; (repeat (first | with_reducible exact mh | with_reducible refine mt ?_)); exact (rfl : _ = 1); omega; (intro bq; (repeat (first | with_reducible exact Upd.head _ | with_reducible apply Upd.tail))); intro bb) | refine c_ (fun hc => ?_) (fun hc => ?_) | refine g_ (fun hg => ?_) (fun hg => ?_))
      exact dN _ trivial (.of _ nw_ od_ pk_)
    · rw [if_neg hs]
      repeat' (first | refine W_ ?_ | refine c_ (fun hc => ?_) (fun hc => ?_) | refine g_ (fun hg => ?_) (fun hg => ?_))
      exact dN b4 trivial (.of _ nw_ od_ pk_)
  clear hnow
  intro b5 _
  generalize hN0 : mS m = N0 at hnl ⊢
  have hap1 := pW N0 m.ready
  repeat' (first | refine W_ ?_ | ((with_reducible apply eT); rfl; rfl; rfl; kernel_rfl; (repeat (first | with_reducible exact mh | with_reducible refine mt ?_)); exact aq _; exact hrl2; omega; exact hap1; (intro bq; (repeat (first | with_reducible exact Upd.head _ | with_reducible apply Upd.tail))); intro bb) | refine c_ (fun hc => ?_) (fun hc => ?_) | refine g_ (fun hg => ?_) (fun hg => ?_))
  rw [← List.length_append]
  apply aj (X := Nat × Nat × List Int) [0] (fun x => [(5, .int .i64 (x.1 : Int)), (4, .ms s4 x.2.1 0 x.2.2.length)]) (fun x => [(s4, x.2.1, .row 1 (aO x.2.2))]) (fun x => x.1 ≤ m.store.objects.length ∧ x.2.2 = N0 ++ m.ready ++ (m.store.objects.take x.1).flatMap tn) (fun x => m.store.objects.length - x.1) (0, bb, N0 ++ m.ready) ⟨Nat.zero_le _, by simp⟩
  exact kp_; exact nw_
  · exact .refl _
  rintro ⟨i, b6, A⟩ ⟨hi, hA⟩
  dsimp only at hi hA ⊢
  have hAl : A.length ≤ 1 + 1048576 + i * 1048576 := by
    rw [hA, List.length_append, List.length_append]
    have := hsl i hi
    omega
  by_cases hlt : i < m.store.objects.length
  · have hrow := qH (lo := lo) hlt
    have hsn := mB hlt
    have hol := hnum _ (List.getElem_mem hlt)
    have hse := hsem _ (List.getElem_mem hlt)
    have hA2 : A ++ tn m.store.objects[i] = N0 ++ m.ready ++ (m.store.objects.take (i + 1)).flatMap tn := by rw [hsn, hA, List.append_assoc (N0 ++ m.ready)]
    clear hsn hsem hsl hnum
    generalize m.store.objects[i] = o at hrow hol hse hA2
    obtain ⟨ok, oc, fs, ns⟩ := o
    dsimp only at hrow hol hse
    unfold tn at hA2
    dsimp only at hA2
    have hnl2 := aq ns
    by_cases hk : ok = 3
    · rw [if_pos hk] at hA2
      have h1 := hse hk
      have hdr := sw ns 1
      have hdl := aq (ns.drop 1)
      have hdl2 : (ns.drop 1).length ≤ 1048576 := by rw [List.length_drop]; omega
      have hap := pW A (ns.drop 1)
      repeat' (first | refine W_ ?_ | (refine ai ?_; intro ss bb) | refine ad ?_ | refine aca ?_ | ((with_reducible apply eT); rfl; rfl; rfl; kernel_rfl; (repeat (first | with_reducible exact mh | with_reducible refine mt ?_)); exact aq _; exact hdl; omega; exact hap; (intro bq; (repeat (first | with_reducible exact Upd.head _ | with_reducible apply Upd.tail))); intro bb) | refine c_ (fun hc => ?_) (fun hc => ?_) | refine g_ (fun hg => ?_) (fun hg => ?_))
      rw [← List.length_append]
      exact ah (i + 1, _, A ++ ns.drop 1) ⟨by dsimp only; omega, hA2⟩ (by dsimp only; omega) (.of _ nw_ od_ pk_)
    · rw [if_neg hk, List.append_nil] at hA2
      repeat' (first | refine W_ ?_ | (refine ai ?_; intro ss bb) | refine ad ?_ | refine c_ (fun hc => ?_) (fun hc => ?_) | refine g_ (fun hg => ?_) (fun hg => ?_))
      exact ah (i + 1, b6, A) ⟨by dsimp only; omega, hA2⟩ (by dsimp only; omega) (.of _ nw_ od_ pk_)
  obtain rfl : i = m.store.objects.length := by omega
  rw [List.take_of_length_le (Nat.le_refl _)] at hA
  have hAe : A = mS m ++ m.ready ++ sU m := by rw [hA, hN0]; rfl
  have hT := adt hAe
  have hF := adj hAe
  generalize alO m = r at hT hF ⊢
  clear hA hAe hN0 hap1 hsl hsem hnum
  replace hAl : A.length ≤ 900000000 := by omega
  repeat' (first | refine H_ 11 ?_ | refine c_ (fun hc => ?_) (fun hc => ?_) | refine g_ (fun hg => ?_) (fun hg => ?_))
  refine ⟨?_⟩
  refine m3 (t := 4) rfl (aq _) (.head _) ?_
  have hll := aq A
  repeat' (first | refine W_ ?_ | refine c_ (fun hc => ?_) (fun hc => ?_) | refine g_ (fun hg => ?_) (fun hg => ?_))
  apply aj (X := Nat) [0, 4] (fun i => [(7, .int .i64 (i : Int))]) (fun _ => []) (fun i => i ≤ A.length ∧ (∀ p ∈ A.take i, 0 ≤ p ∧ p < m.processes.length) ∧ (A.take i).Nodup) (fun i => A.length - i) 0 ⟨Nat.zero_le _, by simp, by simp⟩
  exact kp_; exact nw_
  · exact .refl _
  rintro i ⟨hi, hin, hnd⟩
  try dsimp only
  by_cases hlt : i < A.length
  case neg =>
    obtain rfl : i = A.length := by omega
    rw [List.take_of_length_le (Nat.le_refl _)] at hin hnd
    rw [hT ⟨hin, hnd⟩]
    repeat' (first | refine W_ ?_ | refine c_ (fun hc => ?_) (fun hc => ?_) | refine g_ (fun hg => ?_) (fun hg => ?_))
    refine d9 x_ rfl (.tmp _ _ rfl) (.tmp _ _ rfl) (fun _ => ?_) (fun _ => ?_)
    · exact Fin.slFlat (Nat.le_refl _) (j2 _)
    · exact Fin.flat rfl
  have hrow := jw hlt
  have hta := aT (p := fun p : Int => 0 ≤ p ∧ p < m.processes.length) hlt hin
  have hns := o6 hlt hnd
  have hb1 : ¬ (0 ≤ A[i] ∧ A[i] < m.processes.length) → r = none := fun h => hF fun k => h (k.1 _ (List.getElem_mem hlt))
  have hb2 : A[i] ∈ A.take i → r = none := fun h => hF fun k => sC hlt h k.2
  have htk := rz A i
  have hhas := ui (G := GL) w0.heap.size (A.take i) A[i] (by rw [List.length_take]; omega)
  have k1 := a7 (G := GL) A[i] 0 ((m.processes.length - 1 : Nat) : Int)
  generalize A[i] = p at hrow hta hns hb1 hb2 hhas k1
  by_cases hr : 0 ≤ p ∧ p < m.processes.length
  case neg =>
    rw [show inR p 0 ((m.processes.length - 1 : Nat) : Int) = false from by simp only [inR, decide_eq_false_iff_not]; omega] at k1
    rw [hb1 hr]
    repeat' (first | refine V_ ?_ | refine ac hG hst (k1) ?_ | refine c_ (fun hc => ?_) (fun hc => ?_) | refine g_ (fun hg => ?_) (fun hg => ?_))
    refine d9 x_ rfl (.tmp _ _ rfl) (.tmp _ _ rfl) (fun _ => ?_) (fun _ => ?_)
    · exact .nils 1
    · exact Fin.flat rfl
  rw [show inR p 0 ((m.processes.length - 1 : Nat) : Int) = true from by simp only [inR, decide_eq_true_eq]; omega] at k1
  by_cases hm : p ∈ A.take i
  · rw [decide_eq_true hm] at hhas
    rw [hb2 hm]
    repeat' (first | refine V_ ?_ | refine iT ?_ | refine ac hG hst (k1) ?_ | refine ac hG hst (hhas) ?_ | refine c_ (fun hc => ?_) (fun hc => ?_) | refine g_ (fun hg => ?_) (fun hg => ?_))
    refine d9 x_ rfl (.tmp _ _ rfl) (.tmp _ _ rfl) (fun _ => ?_) (fun _ => ?_)
    · exact .nils 1
    · exact Fin.flat rfl
  · rw [decide_eq_false hm] at hhas
    repeat' (first | refine V_ ?_ | refine iT ?_ | refine ac hG hst (k1) ?_ | refine ac hG hst (hhas) ?_ | refine c_ (fun hc => ?_) (fun hc => ?_) | refine g_ (fun hg => ?_) (fun hg => ?_))
    exact ah (i + 1) ⟨by omega, hta hr, hns hm⟩ (by omega) (.of _ nw_ od_ pk_)
end Go.Proofs.YtiihihgjiklnoaaGreatDoor
