/- The statement Rows.FnExactIsImageCardSaid: for every input the law returns true, and its arguments read afterwards as they read before; the tied card. The frame follows the guide's worked example of a law that lists a pinned table; the walk is ex. Written by gen_proof.py. -/
import Derived.Test.YthpdkhejeookhaaGreatDoorRows
import Derived.Test.YthpdkhejeookhaaGreatDoorCards
import Derived.Test.YthpdkhejeookhaaGreatDoorTie
import Derived.Test.YthpdkhejeookhaaGreatDoorPart2
import Derived.Test.YthpdkhejeookhaaGreatDoorPart17
import Derived.LaidOnce
import Derived.SevenTiedAt
import Derived.Carry
namespace Go.Proofs.YthpdkhejeookhaaGreatDoor.fnExactIsImage
open Go.ChangeShapes Go.WideShapes Go.ChangeAt Go.RowKit
theorem own : ownKnob Tryz.prog.godebug = none := by kernel_rfl
theorem laidOut : laidOutB Tryz.prog = true := by kernel_rfl
theorem tyOk0 : tyB Tryz.prog aM.ty 72 = true := by kernel_rfl

set_option maxRecDepth 100000 in
set_option maxHeartbeats 1000000 in
theorem lifted (os : Os) (started : os.Started) (H : Type) (enc : TypeId × Value → H) :
    ReturnsInHanded {} Tryz.checked os 7 .any (fun w args => (Rows.fnExactIsImageSpec.pre enc Tryz.prog Tryz.f7 [] false w args ∧ laidMetH Tryz.prog Rows.fnExactIsImageRow.laid w) ∧ sizedMet enc Tryz.prog Tryz.f7 (OpenSpec.ofChange Rows.fnExactIsImageSpec) false w args)
      (Rows.fnExactIsImageSpec.post enc Tryz.prog Tryz.f7 false true false false) := by
  refine gr (C := Tryz.checked) (X := fun w _ => laidMetH Tryz.prog Rows.fnExactIsImageRow.laid w) (fun _ _ _ hh h => h.of_heap hh) own started (by kernel_rfl) Tryz.func7
    (ChangeSpec.witness_shaped (enc := enc) (C := Tryz.checked) (os := os) (X := fun w _ => laidMetH Tryz.prog Rows.fnExactIsImageRow.laid w) false (World.laidAll Tryz.prog os Rows.fnExactIsImageRow.laid) #[.agg #[.slice none 0 0, .slice none 0 0, .slice none 0 0, .int .i64 0, .slice none 0 0, .slice none 0 0, .slice none 0 0, .int .i64 0, .int .i64 0, .int .i64 0, .slice none 0 0, .slice none 0 0, .slice none 0 0, .slice none 0 0, .int .i64 0, .int .i64 0, .int .i64 0, .int .i64 0, .string ⟨#[]⟩, .string ⟨#[]⟩]] 8 (World.laidAll_os _ _ _)
      (World.shaped_of_ZipB (by kernel_rfl) (by kernel_rfl)) (by kernel_rfl) (by kernel_rfl) (by kernel_rfl)
      (by rw [MakeChecks.laidMetH_plain _ _ _ (by kernel_rfl)]; exact laidMet_laidAll _ (by kernel_rfl) (by kernel_rfl))) ?_
  intro W base args ds gs before hval0 hW _ _ hL hsh _
  have hval : ∀ (j : Nat) t v, Tryz.f7.params[j]? = some t → args[j]? = some v → Value.okWide Tryz.prog W .any base t v := hval0
  have hW' := hW
  obtain ⟨p, q, hA0, hV, rfl, _, _⟩ := hW
  have hA : DataW.TrodAll enc Tryz.prog W 0 (fun _ => true) true Tryz.f7.params.toList args.toList ds p := hA0
  rw [Tryz.params7] at hA hval
  obtain ⟨v0, d0, rfl, rfl, h0⟩ := trodAll_one hA
  obtain ⟨rfl, rfl⟩ := trodVars_none hV
  simp only [List.append_nil] at hW'
  obtain ⟨cs0, rfl, _⟩ := okWide_struct Tryz.underlying72 (hval 0 72 v0 rfl rfl)
  have k0 := h0
  have lt0 : ∀ x ∈ p, x.block < W.heap.size := by obtain ⟨m, hm⟩ := k0; exact DataW.trod_lt m _ _ _ hm
  obtain ⟨t0, x0, at0, s0, z0, e0⟩ : ∃ (t : PT) (x : aM), eD t x ∧ dl W (· < W.heap.size) t ∧ x.sane ∧ cs0 = t.cells.toArray := by
    obtain ⟨fuel, hf⟩ := h0
    obtain ⟨t, ht, hc, hs, hn⟩ := qr aM.ty _ fuel _ _ tyOk0 hf
    obtain ⟨x, hx⟩ := aM.of_ty ht
    refine ⟨t, x, hx, hs, aM.sane_of hx hn, ?_⟩
    have : cs0.toList = t.cells := hc.symm
    rw [← Array.toArray_toList (xs := cs0), this]
  subst e0
  rw [MakeChecks.laidMetH_plain _ _ _ (by kernel_rfl)] at hL
  refine (ex W t0 x0 at0 s0 z0 (xH hsh)).mono fun e W' ⟨he, bel⟩ => ?_
  subst he
  exact ⟨_, rfl, _, _, _, [], _, [], hW', trodAll_mk1 (shut_bool Tryz.underlying4 _), trodAll_mk1 (Below.trod laidOut (by kernel_rfl) (of_decide_eq_true (by kernel_rfl)) k0 bel lt0), rfl, bel.frame _, fun h => by cases h⟩

theorem and_i {a b : Bool} (h : a = true) (k : b = true) : (a && b) = true := by rw [h, k]; rfl
set_option maxRecDepth 100000 in
set_option maxHeartbeats 8000000 in
theorem closed : joinedFacts Tryz.prog 7 Tryz.f7 Rows.fnExactIsImageSpec Rows.fnExactIsImageRow = true := by
  unfold joinedFacts
  repeat' (with_reducible apply and_i)
  all_goals as_aux_lemma => kernel_rfl
theorem over : Rows.FnExactIsImageSaid :=
  OpenClaim.holds_of_wide 7 Tryz.f7 rfl rfl rfl rfl rfl rfl rfl ⟨rfl, rfl, rfl, rfl, rfl⟩ rfl rfl rfl rfl rfl (by kernel_rfl) Tryz.func7 closed
    (of_decide_eq_true (by kernel_rfl)) (by unfold Func.isWrapper; first | (rw [if_neg (by decide +kernel)]; exact ⟨rfl, rfl⟩))
    (fun os started H enc _ => lifted os started H enc)

/-- ████ THE STATEMENT ████ -/
theorem proved : Rows.FnExactIsImageCardSaid :=
  Claim7.holds_tied_plain_at .later [] [.data, .pinned] true (true, "bfb9c27a0297885d0d6e0520243ed9da0a59ae31c63d21b9d1dc2e4ee64f458d") false over (fun _ h => by cases h) (by kernel_rfl) (fun _ h => by cases h) fnExactIsImage_row_tie rfl ⟨rfl, rfl⟩ (by kernel_rfl) rfl
    (fun f fn hf hfn => by
      obtain rfl : f = 7 := Option.some.inj ((show Tryz.prog.funcNamed "loop.example/g03108/laws.FnExactIsImage" = some 7 by kernel_rfl).symm.trans hf) |>.symm
      obtain rfl : fn = Tryz.f7 := (Option.some.inj (Tryz.func7.symm.trans hfn)).symm
      exact ⟨by kernel_rfl, fun j t ht => by
        rw [Tryz.params7] at ht
        have hm : t ∈ [72] := by simpa using Array.mem_of_getElem? ht
        have hall : ([72].all fun u => !Tryz.prog.wantsStandIn u) = true := by kernel_rfl
        exact (show Tryz.prog.wantsStandIn t = false by simpa using List.all_eq_true.1 hall t hm)⟩)
    (by kernel_rfl)
#print axioms proved
end Go.Proofs.YthpdkhejeookhaaGreatDoor.fnExactIsImage
