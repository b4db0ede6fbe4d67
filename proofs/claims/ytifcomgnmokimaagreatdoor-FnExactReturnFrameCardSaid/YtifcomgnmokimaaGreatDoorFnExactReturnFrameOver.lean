/- The statement of the law FnExactReturnFrame, ahead of its card. Written by gen_proof.py. -/
import Derived.Test.YtifcomgnmokimaaGreatDoorRows
import Derived.Test.YtifcomgnmokimaaGreatDoorCards
import Derived.Test.YtifcomgnmokimaaGreatDoorTie
import Derived.Test.YtifcomgnmokimaaGreatDoorRt9
import Derived.Test.YtifcomgnmokimaaGreatDoorRt45
import Derived.LaidOnce
import Derived.SevenTiedAt
import Derived.Carry
set_option linter.all false
namespace Go.Proofs.YtifcomgnmokimaaGreatDoor.fnExactReturnFrame
open Go.ChangeShapes Go.WideShapes Go.ChangeAt Go.RowKit
theorem own : ownKnob Tryz.prog.godebug = none := by kernel_rfl
theorem laidOut : laidOutB Tryz.prog = true := by kernel_rfl
theorem tyOk0 : tyB Tryz.prog ad.ty 38 = true := by kernel_rfl
theorem tyOk1 : tyB Tryz.prog (.int .i64) 3 = true := by kernel_rfl
theorem tyOk2 : tyB Tryz.prog ab.ty 36 = true := by kernel_rfl

set_option maxRecDepth 100000 in
set_option maxHeartbeats 1000000 in
theorem lifted (os : Os) (started : os.Started) (H : Type) (enc : TypeId × Value → H) :
    ReturnsInHanded {} Tryz.checked os 4 .any (fun w args => (Rows.fnExactReturnFrameSpec.pre enc Tryz.prog Tryz.f4 [] false w args ∧ laidMetH Tryz.prog Rows.fnExactReturnFrameRow.laid w) ∧ sizedMet enc Tryz.prog Tryz.f4 (OpenSpec.ofChange Rows.fnExactReturnFrameSpec) false w args)
      (Rows.fnExactReturnFrameSpec.post enc Tryz.prog Tryz.f4 false true false false) := by
  refine j8 (C := Tryz.checked) (X := fun w _ => laidMetH Tryz.prog Rows.fnExactReturnFrameRow.laid w) (fun _ _ _ hh h => h.of_heap hh) own started (by kernel_rfl) Tryz.func4
    (ChangeSpec.witness_shaped (enc := enc) (C := Tryz.checked) (os := os) (X := fun w _ => laidMetH Tryz.prog Rows.fnExactReturnFrameRow.laid w) false (World.laidAll Tryz.prog os Rows.fnExactReturnFrameRow.laid) #[.agg #[.slice none 0 0, .slice none 0 0, .slice none 0 0, .int .i64 0, .slice none 0 0, .slice none 0 0, .slice none 0 0, .int .i64 0, .int .i64 0, .int .i64 0, .slice none 0 0, .slice none 0 0, .slice none 0 0, .slice none 0 0, .int .i64 0, .int .i64 0, .int .i64 0, .int .i64 0, .string ⟨#[]⟩, .string ⟨#[]⟩], .int .i64 0, .agg #[.int .i64 0, .int .i64 0, .string ⟨#[]⟩]] 8 (World.laidAll_os _ _ _)
      (World.shaped_of_ZipB (by kernel_rfl) (by kernel_rfl)) (by kernel_rfl) (by kernel_rfl) (by kernel_rfl)
      (by rw [MakeChecks.laidMetH_plain _ _ _ (by kernel_rfl)]; exact laidMet_laidAll _ (by kernel_rfl) (by kernel_rfl))) ?_
  intro W base args ds gs before hval0 hW _ _ hL hsh _
  have hval : ∀ (j : Nat) t v, Tryz.f4.params[j]? = some t → args[j]? = some v → Value.okWide Tryz.prog W .any base t v := hval0
  have hW' := hW
  obtain ⟨p, q, hA0, hV, rfl, _, _⟩ := hW
  have hA : DataW.TrodAll enc Tryz.prog W 0 (fun _ => true) true Tryz.f4.params.toList args.toList ds p := hA0
  rw [Tryz.params4] at hA hval
  obtain ⟨v0, v1, v2, d0, d1, d2, p0, p1, p2, rfl, rfl, rfl, h0, h1, h2⟩ := trodAll_three hA
  obtain ⟨rfl, rfl⟩ := trodVars_none hV
  simp only [List.append_nil] at hW'
  obtain ⟨cs0, rfl, _⟩ := okWide_struct Tryz.underlying38 (hval 0 38 v0 rfl rfl)
  have k0 := h0
  have lt0 : ∀ x ∈ p0, x.block < W.heap.size := by obtain ⟨m, hm⟩ := k0; exact DataW.trod_lt m _ _ _ hm
  obtain ⟨t0, x0, at0, s0, z0, e0⟩ : ∃ (t : PT) (x : ad), ic t x ∧ eF W (· < W.heap.size) t ∧ x.sane ∧ cs0 = t.cells.toArray := by
    obtain ⟨fuel, hf⟩ := h0
    obtain ⟨t, ht, hc, hs, hn⟩ := oJ ad.ty _ fuel _ _ tyOk0 hf
    obtain ⟨x, hx⟩ := ad.of_ty ht
    refine ⟨t, x, hx, hs, ad.sane_of hx hn, ?_⟩
    have : cs0.toList = t.cells := hc.symm
    rw [← Array.toArray_toList (xs := cs0), this]
  subst e0
  obtain ⟨a1, rfl⟩ := okWide_int Tryz.underlying3 (hval 1 3 v1 rfl rfl)
  have k1 := h1
  have lt1 : ∀ x ∈ p1, x.block < W.heap.size := by obtain ⟨m, hm⟩ := k1; exact DataW.trod_lt m _ _ _ hm
  have e1 : i64 a1 := by
    obtain ⟨fuel, hf⟩ := h1
    obtain ⟨t, ht, hc, hs, hn⟩ := oJ (.int .i64) _ fuel _ _ tyOk1 hf
    simp only [dn] at ht
    obtain ⟨m, rfl⟩ := ht
    have hc : [Value.int .i64 m] = [Value.int .i64 a1] := hc
    simp only [List.cons.injEq, Value.int.injEq, true_and, and_true] at hc
    subst hc
    exact cC hn
  obtain ⟨cs2, rfl, _⟩ := okWide_struct Tryz.underlying36 (hval 2 36 v2 rfl rfl)
  have k2 := h2
  have lt2 : ∀ x ∈ p2, x.block < W.heap.size := by obtain ⟨m, hm⟩ := k2; exact DataW.trod_lt m _ _ _ hm
  obtain ⟨t2, x2, at2, s2, z2, e2⟩ : ∃ (t : PT) (x : ab), xT t x ∧ eF W (· < W.heap.size) t ∧ x.sane ∧ cs2 = t.cells.toArray := by
    obtain ⟨fuel, hf⟩ := h2
    obtain ⟨t, ht, hc, hs, hn⟩ := oJ ab.ty _ fuel _ _ tyOk2 hf
    obtain ⟨x, hx⟩ := ab.of_ty ht
    refine ⟨t, x, hx, hs, by subst hx; exact ab.sane_of hn, ?_⟩
    have : cs2.toList = t.cells := hc.symm
    rw [← Array.toArray_toList (xs := cs2), this]
  subst e2
  rw [MakeChecks.laidMetH_plain _ _ _ (by kernel_rfl)] at hL
  refine (fx W t0 x0 at0 s0 z0 a1 e1 t2 x2 at2 s2 z2 (ae2 hsh)).mono fun e W' ⟨he, bel⟩ => ?_
  subst he
  exact ⟨_, rfl, _, _, _, [], _, [], hW', trodAll_mk1 (shut_bool Tryz.underlying4 _), trodAll_mk3 (Below.trod laidOut (by kernel_rfl) (of_decide_eq_true (by kernel_rfl)) k0 bel lt0) (Below.trod laidOut (by kernel_rfl) (of_decide_eq_true (by kernel_rfl)) k1 bel lt1) (Below.trod laidOut (by kernel_rfl) (of_decide_eq_true (by kernel_rfl)) k2 bel lt2), rfl, bel.frame _, fun h => by cases h⟩

theorem and_i {a b : Bool} (h : a = true) (k : b = true) : (a && b) = true := by rw [h, k]; rfl
set_option maxRecDepth 100000 in
set_option maxHeartbeats 8000000 in
theorem closed : joinedFacts Tryz.prog 4 Tryz.f4 Rows.fnExactReturnFrameSpec Rows.fnExactReturnFrameRow = true := by
  unfold joinedFacts
  repeat' (with_reducible apply and_i)
  all_goals as_aux_lemma => kernel_rfl
theorem over : Rows.FnExactReturnFrameSaid :=
  OpenClaim.holds_of_wide 4 Tryz.f4 rfl rfl rfl rfl rfl rfl rfl ⟨rfl, rfl, rfl, rfl, rfl⟩ rfl rfl rfl rfl rfl (by kernel_rfl) Tryz.func4 closed
    (of_decide_eq_true (by kernel_rfl)) (by unfold Func.isWrapper; first | (rw [if_pos (by decide +kernel)]; kernel_rfl) | (rw [if_neg (by decide +kernel)]; exact ⟨rfl, rfl⟩))
    (fun os started H enc _ => lifted os started H enc)
end Go.Proofs.YtifcomgnmokimaaGreatDoor.fnExactReturnFrame
