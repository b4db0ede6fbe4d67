/- The statement of the law FnExactCollectImage, ahead of its card. Written by gen_proof.py. -/
import Derived.Test.YtofnnnpahglfdaaGreatDoorRows
import Derived.Test.YtofnnnpahglfdaaGreatDoorCards
import Derived.Test.YtofnnnpahglfdaaGreatDoorTie
import Derived.Test.YtofnnnpahglfdaaGreatDoorCo10
import Derived.Test.YtofnnnpahglfdaaGreatDoorCo44
import Derived.LaidOnce
import Derived.SevenTiedAt
import Derived.Carry
set_option linter.all false
namespace Go.Proofs.YtofnnnpahglfdaaGreatDoor.fnExactCollectImage
open Go.ChangeShapes Go.WideShapes Go.ChangeAt Go.RowKit
theorem own : ownKnob Tryz.prog.godebug = none := by kernel_rfl
theorem laidOut : laidOutB Tryz.prog = true := by kernel_rfl
theorem tyOk0 : tyB Tryz.prog ah.ty 38 = true := by kernel_rfl

set_option maxRecDepth 100000 in
set_option maxHeartbeats 1000000 in
theorem lifted (os : Os) (started : os.Started) (H : Type) (enc : TypeId × Value → H) :
    ReturnsInHanded {} Tryz.checked os 6 .any (fun w args => (Rows.fnExactCollectImageSpec.pre enc Tryz.prog Tryz.f6 [] false w args ∧ laidMetH Tryz.prog Rows.fnExactCollectImageRow.laid w) ∧ sizedMet enc Tryz.prog Tryz.f6 (OpenSpec.ofChange Rows.fnExactCollectImageSpec) false w args)
      (Rows.fnExactCollectImageSpec.post enc Tryz.prog Tryz.f6 false true false false) := by
  refine j3 (C := Tryz.checked) (X := fun w _ => laidMetH Tryz.prog Rows.fnExactCollectImageRow.laid w) (fun _ _ _ hh h => h.of_heap hh) own started (by kernel_rfl) Tryz.func6
    (ChangeSpec.witness_shaped (enc := enc) (C := Tryz.checked) (os := os) (X := fun w _ => laidMetH Tryz.prog Rows.fnExactCollectImageRow.laid w) false (World.laidAll Tryz.prog os Rows.fnExactCollectImageRow.laid) #[.agg #[.slice none 0 0, .slice none 0 0, .slice none 0 0, .int .i64 0, .slice none 0 0, .slice none 0 0, .slice none 0 0, .int .i64 0, .int .i64 0, .int .i64 0, .slice none 0 0, .slice none 0 0, .slice none 0 0, .slice none 0 0, .int .i64 0, .int .i64 0, .int .i64 0, .int .i64 0, .string ⟨#[]⟩, .string ⟨#[]⟩]] 8 (World.laidAll_os _ _ _)
      (World.shaped_of_ZipB (by kernel_rfl) (by kernel_rfl)) (by kernel_rfl) (by kernel_rfl) (by kernel_rfl)
      (by rw [MakeChecks.laidMetH_plain _ _ _ (by kernel_rfl)]; exact laidMet_laidAll _ (by kernel_rfl) (by kernel_rfl))) ?_
  intro W base args ds gs before hval0 hW _ _ hL hsh _
  have hval : ∀ (j : Nat) t v, Tryz.f6.params[j]? = some t → args[j]? = some v → Value.okWide Tryz.prog W .any base t v := hval0
  have hW' := hW
  obtain ⟨p, q, hA0, hV, rfl, _, _⟩ := hW
  have hA : DataW.TrodAll enc Tryz.prog W 0 (fun _ => true) true Tryz.f6.params.toList args.toList ds p := hA0
  rw [Tryz.params6] at hA hval
  obtain ⟨v0, d0, rfl, rfl, h0⟩ := trodAll_one hA
  obtain ⟨rfl, rfl⟩ := trodVars_none hV
  simp only [List.append_nil] at hW'
  obtain ⟨cs0, rfl, _⟩ := okWide_struct Tryz.underlying38 (hval 0 38 v0 rfl rfl)
  have k0 := h0
  have lt0 : ∀ x ∈ p, x.block < W.heap.size := by obtain ⟨m, hm⟩ := k0; exact DataW.trod_lt m _ _ _ hm
  obtain ⟨t0, x0, at0, s0, z0, e0⟩ : ∃ (t : PT) (x : ah), gP t x ∧ er W (· < W.heap.size) t ∧ x.sane ∧ cs0 = t.cells.toArray := by
    obtain ⟨fuel, hf⟩ := h0
    obtain ⟨t, ht, hc, hs, hn⟩ := xh ah.ty _ fuel _ _ tyOk0 hf
    obtain ⟨x, hx⟩ := ah.of_ty ht
    refine ⟨t, x, hx, hs, ah.sane_of hx hn, ?_⟩
    have : cs0.toList = t.cells := hc.symm
    rw [← Array.toArray_toList (xs := cs0), this]
  subst e0
  rw [MakeChecks.laidMetH_plain _ _ _ (by kernel_rfl)] at hL
  refine (fa W t0 x0 at0 s0 z0 (afL hsh)).mono fun e W' ⟨he, bel⟩ => ?_
  subst he
  exact ⟨_, rfl, _, _, _, [], _, [], hW', trodAll_mk1 (shut_bool Tryz.underlying4 _), trodAll_mk1 (Below.trod laidOut (by kernel_rfl) (of_decide_eq_true (by kernel_rfl)) k0 bel lt0), rfl, bel.frame _, fun h => by cases h⟩

theorem and_i {a b : Bool} (h : a = true) (k : b = true) : (a && b) = true := by rw [h, k]; rfl
set_option maxRecDepth 100000 in
set_option maxHeartbeats 8000000 in
theorem closed : joinedFacts Tryz.prog 6 Tryz.f6 Rows.fnExactCollectImageSpec Rows.fnExactCollectImageRow = true := by
  unfold joinedFacts
  repeat' (with_reducible apply and_i)
  all_goals as_aux_lemma => kernel_rfl
theorem over : Rows.FnExactCollectImageSaid :=
  OpenClaim.holds_of_wide 6 Tryz.f6 rfl rfl rfl rfl rfl rfl rfl ⟨rfl, rfl, rfl, rfl, rfl⟩ rfl rfl rfl rfl rfl (by kernel_rfl) Tryz.func6 closed
    (of_decide_eq_true (by kernel_rfl)) (by unfold Func.isWrapper; first | (rw [if_pos (by decide +kernel)]; kernel_rfl) | (rw [if_neg (by decide +kernel)]; exact ⟨rfl, rfl⟩))
    (fun os started H enc _ => lifted os started H enc)
end Go.Proofs.YtofnnnpahglfdaaGreatDoor.fnExactCollectImage
