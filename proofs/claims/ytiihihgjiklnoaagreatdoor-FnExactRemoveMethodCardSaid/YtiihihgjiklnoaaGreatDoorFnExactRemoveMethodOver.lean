/- The statement of the law FnExactRemoveMethod, ahead of its card. Written by gen_proof.py. -/
import Derived.Test.YtiihihgjiklnoaaGreatDoorRows
import Derived.Test.YtiihihgjiklnoaaGreatDoorCards
import Derived.Test.YtiihihgjiklnoaaGreatDoorTie
import Derived.Test.YtiihihgjiklnoaaGreatDoorSx10
import Derived.Test.YtiihihgjiklnoaaGreatDoorSx46
import Derived.LaidOnce
import Derived.SevenTiedAt
import Derived.Carry
namespace Go.Proofs.YtiihihgjiklnoaaGreatDoor.fnExactRemoveMethod
open Go.ChangeShapes Go.WideShapes Go.ChangeAt Go.RowKit
theorem own : ownKnob Tryz.prog.godebug = none := by kernel_rfl
theorem laidOut : laidOutB Tryz.prog = true := by kernel_rfl
theorem tyOk0 : tyB Tryz.prog ak.ty 61 = true := by kernel_rfl
theorem tyOk1 : tyB Tryz.prog (.int .i64) 3 = true := by kernel_rfl
theorem tyOk2 : tyB Tryz.prog .bool 4 = true := by kernel_rfl
theorem tyOk3 : tyB Tryz.prog .str 9 = true := by kernel_rfl

set_option maxRecDepth 100000 in
set_option maxHeartbeats 1000000 in
theorem lifted (os : Os) (started : os.Started) (H : Type) (enc : TypeId × Value → H) :
    ReturnsInHanded {} Tryz.checked os 8 .any (fun w args => (Rows.fnExactRemoveMethodSpec.pre enc Tryz.prog Tryz.f8 [] false w args ∧ laidMetH Tryz.prog Rows.fnExactRemoveMethodRow.laid w) ∧ sizedMet enc Tryz.prog Tryz.f8 (OpenSpec.ofChange Rows.fnExactRemoveMethodSpec) false w args)
      (Rows.fnExactRemoveMethodSpec.post enc Tryz.prog Tryz.f8 false true false false) := by
  refine fH (C := Tryz.checked) (X := fun w _ => laidMetH Tryz.prog Rows.fnExactRemoveMethodRow.laid w) (fun _ _ _ hh h => h.of_heap hh) own started (by kernel_rfl) Tryz.func8
    (ChangeSpec.witness_shaped (enc := enc) (C := Tryz.checked) (os := os) (X := fun w _ => laidMetH Tryz.prog Rows.fnExactRemoveMethodRow.laid w) false (World.laidAll Tryz.prog os Rows.fnExactRemoveMethodRow.laid) #[.agg #[.slice none 0 0, .slice none 0 0, .slice none 0 0, .int .i64 0, .slice none 0 0, .slice none 0 0, .slice none 0 0, .int .i64 0, .int .i64 0, .int .i64 0, .slice none 0 0, .slice none 0 0, .slice none 0 0, .slice none 0 0, .int .i64 0, .int .i64 0, .int .i64 0, .int .i64 0, .string ⟨#[]⟩, .string ⟨#[]⟩], .int .i64 0, .bool false, .string ⟨#[]⟩] 8 (World.laidAll_os _ _ _)
      (World.shaped_of_ZipB (by kernel_rfl) (by kernel_rfl)) (by kernel_rfl) (by kernel_rfl) (by kernel_rfl)
      (by rw [MakeChecks.laidMetH_plain _ _ _ (by kernel_rfl)]; exact laidMet_laidAll _ (by kernel_rfl) (by kernel_rfl))) ?_
  intro W base args ds gs before hval0 hW _ _ hL hsh _
  have hval : ∀ (j : Nat) t v, Tryz.f8.params[j]? = some t → args[j]? = some v → Value.okWide Tryz.prog W .any base t v := hval0
  have hW' := hW
  obtain ⟨p, q, hA0, hV, rfl, _, _⟩ := hW
  have hA : DataW.TrodAll enc Tryz.prog W 0 (fun _ => true) true Tryz.f8.params.toList args.toList ds p := hA0
  rw [Tryz.params8] at hA hval
  obtain ⟨v0, v1, v2, v3, d0, d1, d2, d3, p0, p1, p2, p3, rfl, rfl, rfl, h0, h1, h2, h3⟩ := trodAll_four hA
  obtain ⟨rfl, rfl⟩ := trodVars_none hV
  simp only [List.append_nil] at hW'
  obtain ⟨cs0, rfl, _⟩ := okWide_struct Tryz.underlying61 (hval 0 61 v0 rfl rfl)
  have k0 := h0
  have lt0 : ∀ x ∈ p0, x.block < W.heap.size := by obtain ⟨m, hm⟩ := k0; exact DataW.trod_lt m _ _ _ hm
  obtain ⟨t0, x0, at0, s0, z0, e0⟩ : ∃ (t : PT) (x : ak), fm t x ∧ ed W (· < W.heap.size) t ∧ x.sane ∧ cs0 = t.cells.toArray := by
    obtain ⟨fuel, hf⟩ := h0
    obtain ⟨t, ht, hc, hs, hn⟩ := jd ak.ty _ fuel _ _ tyOk0 hf
    obtain ⟨x, hx⟩ := ak.of_ty ht
    refine ⟨t, x, hx, hs, ak.sane_of hx hn, ?_⟩
    have : cs0.toList = t.cells := hc.symm
    rw [← Array.toArray_toList (xs := cs0), this]
  subst e0
  obtain ⟨a1, rfl⟩ := okWide_int Tryz.underlying3 (hval 1 3 v1 rfl rfl)
  have k1 := h1
  have lt1 : ∀ x ∈ p1, x.block < W.heap.size := by obtain ⟨m, hm⟩ := k1; exact DataW.trod_lt m _ _ _ hm
  have e1 : i64 a1 := by
    obtain ⟨fuel, hf⟩ := h1
    obtain ⟨t, ht, hc, hs, hn⟩ := jd (.int .i64) _ fuel _ _ tyOk1 hf
    simp only [cI] at ht
    obtain ⟨m, rfl⟩ := ht
    have hc : [Value.int .i64 m] = [Value.int .i64 a1] := hc
    simp only [List.cons.injEq, Value.int.injEq, true_and, and_true] at hc
    subst hc
    exact ci hn
  obtain ⟨a2, rfl⟩ := okWide_bool Tryz.underlying4 (hval 2 4 v2 rfl rfl)
  have k2 := h2
  have lt2 : ∀ x ∈ p2, x.block < W.heap.size := by obtain ⟨m, hm⟩ := k2; exact DataW.trod_lt m _ _ _ hm
  obtain ⟨a3, rfl⟩ := okWide_string Tryz.underlying9 (hval 3 9 v3 rfl rfl)
  have k3 := h3
  have lt3 : ∀ x ∈ p3, x.block < W.heap.size := by obtain ⟨m, hm⟩ := k3; exact DataW.trod_lt m _ _ _ hm
  have e3 : a3.size ≤ maxLen := by
    obtain ⟨fuel, hf⟩ := h3
    obtain ⟨t, ht, hc, hs, hn⟩ := jd .str _ fuel _ _ tyOk3 hf
    simp only [cI] at ht
    obtain ⟨m, rfl⟩ := ht
    have hc : [Value.string m] = [Value.string a3] := hc
    simp only [List.cons.injEq, Value.string.injEq, and_true] at hc
    subst hc
    exact hn
  rw [MakeChecks.laidMetH_plain _ _ _ (by kernel_rfl)] at hL
  refine (eK W t0 x0 at0 s0 z0 a1 e1 a2 a3 e3 (aaH hsh)).mono fun e W' ⟨he, bel⟩ => ?_
  subst he
  exact ⟨_, rfl, _, _, _, [], _, [], hW', trodAll_mk1 (shut_bool Tryz.underlying4 _), trodAll_mk4 (Below.trod laidOut (by kernel_rfl) (of_decide_eq_true (by kernel_rfl)) k0 bel lt0) (Below.trod laidOut (by kernel_rfl) (of_decide_eq_true (by kernel_rfl)) k1 bel lt1) (Below.trod laidOut (by kernel_rfl) (of_decide_eq_true (by kernel_rfl)) k2 bel lt2) (Below.trod laidOut (by kernel_rfl) (of_decide_eq_true (by kernel_rfl)) k3 bel lt3), rfl, bel.frame _, fun h => by cases h⟩

theorem and_i {a b : Bool} (h : a = true) (k : b = true) : (a && b) = true := by rw [h, k]; rfl
set_option maxRecDepth 100000 in
set_option maxHeartbeats 8000000 in
theorem closed : joinedFacts Tryz.prog 8 Tryz.f8 Rows.fnExactRemoveMethodSpec Rows.fnExactRemoveMethodRow = true := by
  unfold joinedFacts
  repeat' (with_reducible apply and_i)
  all_goals as_aux_lemma => kernel_rfl
theorem over : Rows.FnExactRemoveMethodSaid :=
  OpenClaim.holds_of_wide 8 Tryz.f8 rfl rfl rfl rfl rfl rfl rfl ⟨rfl, rfl, rfl, rfl, rfl⟩ rfl rfl rfl rfl rfl (by kernel_rfl) Tryz.func8 closed
    (of_decide_eq_true (by kernel_rfl)) (by unfold Func.isWrapper; first | (rw [if_pos (by decide +kernel)]; kernel_rfl) | (rw [if_neg (by decide +kernel)]; exact ⟨rfl, rfl⟩))
    (fun os started H enc _ => lifted os started H enc)
end Go.Proofs.YtiihihgjiklnoaaGreatDoor.fnExactRemoveMethod
