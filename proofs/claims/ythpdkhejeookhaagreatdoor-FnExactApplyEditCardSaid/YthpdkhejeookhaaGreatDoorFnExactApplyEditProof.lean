/- The statement Rows.FnExactApplyEditCardSaid: for every input the law returns true, and its arguments read afterwards as they read before; the tied card. The frame follows the guide's worked example of a law that lists a pinned table; the walk is fnExactApplyEdit_any. Written by gen_proof.py. -/
import Derived.Test.YthpdkhejeookhaaGreatDoorRows
import Derived.Test.YthpdkhejeookhaaGreatDoorCards
import Derived.Test.YthpdkhejeookhaaGreatDoorTie
import Derived.LaidOnce
import Derived.SevenTiedAt
import Derived.Carry
import Derived.Test.YthpdkhejeookhaaGreatDoorExtra
namespace Go.Proofs.YthpdkhejeookhaaGreatDoor.fnExactApplyEdit
open Go.ChangeShapes Go.WideShapes Go.ChangeAt Go.RowKit
theorem own : ownKnob Tryz.prog.godebug = none := by kernel_rfl
theorem laidOut : laidOutB Tryz.prog = true := by kernel_rfl
theorem tyOk0 : tyB Tryz.prog TCodeBase.ty 26 = true := by kernel_rfl
theorem tyOk1 : tyB Tryz.prog TEdit.ty 40 = true := by kernel_rfl

set_option maxRecDepth 100000 in
set_option maxHeartbeats 1000000 in
theorem lifted (os : Os) (started : os.Started) (H : Type) (enc : TypeId × Value → H) :
    ReturnsInHanded {} Tryz.checked os 4 .any (fun w args => (Rows.fnExactApplyEditSpec.pre enc Tryz.prog Tryz.f4 [] false w args ∧ laidMetH Tryz.prog Rows.fnExactApplyEditRow.laid w) ∧ sizedMet enc Tryz.prog Tryz.f4 (OpenSpec.ofChange Rows.fnExactApplyEditSpec) false w args)
      (Rows.fnExactApplyEditSpec.post enc Tryz.prog Tryz.f4 false true false false) := by
  refine returnsInHanded_both (C := Tryz.checked) (X := fun w _ => laidMetH Tryz.prog Rows.fnExactApplyEditRow.laid w) (fun _ _ _ hh h => h.of_heap hh) own started (by kernel_rfl) Tryz.func4
    (ChangeSpec.witness_shaped (enc := enc) (C := Tryz.checked) (os := os) (X := fun w _ => laidMetH Tryz.prog Rows.fnExactApplyEditRow.laid w) false (World.laidAll Tryz.prog os Rows.fnExactApplyEditRow.laid) #[.agg #[.slice none 0 0, .slice none 0 0, .slice none 0 0, .int .i64 0], .agg #[.int .i64 0, .int .i64 0, .int .i64 0]] 8 (World.laidAll_os _ _ _)
      (World.shaped_of_ZipB (by kernel_rfl) (by kernel_rfl)) (by kernel_rfl) (by kernel_rfl) (by kernel_rfl)
      (by rw [MakeChecks.laidMetH_plain _ _ _ (by kernel_rfl)]; exact laidMet_laidAll _ (by kernel_rfl) (by kernel_rfl))) ?_
  intro W base args ds gs before hval0 hW _ _ hL hsh _
  have hval : ∀ (j : Nat) t v, Tryz.f4.params[j]? = some t → args[j]? = some v → Value.okWide Tryz.prog W .any base t v := hval0
  have hW' := hW
  obtain ⟨p, q, hA0, hV, rfl, _, _⟩ := hW
  have hA : DataW.TrodAll enc Tryz.prog W 0 (fun _ => true) true Tryz.f4.params.toList args.toList ds p := hA0
  rw [Tryz.params4] at hA hval
  obtain ⟨v0, v1, d0, d1, p0, p1, rfl, rfl, rfl, h0, h1⟩ := trodAll_two hA
  obtain ⟨rfl, rfl⟩ := trodVars_none hV
  simp only [List.append_nil] at hW'
  obtain ⟨cs0, rfl, _⟩ := okWide_struct Tryz.underlying26 (hval 0 26 v0 rfl rfl)
  have k0 := h0
  have lt0 : ∀ x ∈ p0, x.block < W.heap.size := by obtain ⟨m, hm⟩ := k0; exact DataW.trod_lt m _ _ _ hm
  obtain ⟨t0, x0, at0, s0, z0, e0⟩ : ∃ (t : PT) (x : TCodeBase), TCodeBaseAt t x ∧ Seen W (· < W.heap.size) t ∧ x.sane ∧ cs0 = t.cells.toArray := by
    obtain ⟨fuel, hf⟩ := h0
    obtain ⟨t, ht, hc, hs, hn⟩ := open_pt TCodeBase.ty _ fuel _ _ tyOk0 hf
    obtain ⟨x, hx⟩ := TCodeBase.of_ty ht
    refine ⟨t, x, hx, hs, TCodeBase.sane_of hx hn, ?_⟩
    have : cs0.toList = t.cells := hc.symm
    rw [← Array.toArray_toList (xs := cs0), this]
  subst e0
  obtain ⟨cs1, rfl, _⟩ := okWide_struct Tryz.underlying40 (hval 1 40 v1 rfl rfl)
  have k1 := h1
  have lt1 : ∀ x ∈ p1, x.block < W.heap.size := by obtain ⟨m, hm⟩ := k1; exact DataW.trod_lt m _ _ _ hm
  obtain ⟨t1, x1, at1, s1, z1, e1⟩ : ∃ (t : PT) (x : TEdit), TEditAt t x ∧ Seen W (· < W.heap.size) t ∧ x.sane ∧ cs1 = t.cells.toArray := by
    obtain ⟨fuel, hf⟩ := h1
    obtain ⟨t, ht, hc, hs, hn⟩ := open_pt TEdit.ty _ fuel _ _ tyOk1 hf
    obtain ⟨x, hx⟩ := TEdit.of_ty ht
    refine ⟨t, x, hx, hs, by subst hx; exact TEdit.sane_of hn, ?_⟩
    have : cs1.toList = t.cells := hc.symm
    rw [← Array.toArray_toList (xs := cs1), this]
  subst e1
  rw [MakeChecks.laidMetH_plain _ _ _ (by kernel_rfl)] at hL
  refine (fnExactApplyEdit_any W t0 x0 at0 s0 z0 t1 x1 at1 s1 z1 (maxL_of hsh)).mono fun e W' ⟨he, bel⟩ => ?_
  subst he
  exact ⟨_, rfl, _, _, _, [], _, [], hW', trodAll_mk1 (shut_bool Tryz.underlying4 _), trodAll_mk2 (Below.trod laidOut (by kernel_rfl) (of_decide_eq_true (by kernel_rfl)) k0 bel lt0) (Below.trod laidOut (by kernel_rfl) (of_decide_eq_true (by kernel_rfl)) k1 bel lt1), rfl, bel.frame _, fun h => by cases h⟩

theorem over : Rows.FnExactApplyEditSaid :=
  OpenClaim.holds_of_wide 4 Tryz.f4 rfl rfl rfl rfl rfl rfl rfl ⟨rfl, rfl, rfl, rfl, rfl⟩ rfl rfl rfl rfl rfl (by kernel_rfl) Tryz.func4 (by kernel_rfl)
    (of_decide_eq_true (by kernel_rfl)) (by unfold Func.isWrapper; first | (rw [if_pos (by decide +kernel)]; kernel_rfl) | (rw [if_neg (by decide +kernel)]; exact ⟨rfl, rfl⟩))
    (fun os started H enc _ => lifted os started H enc)

/-- ████ THE STATEMENT ████ -/
theorem proved : Rows.FnExactApplyEditCardSaid :=
  Claim7.holds_tied_plain_at .later [] [.data, .pinned] true (true, "bfb9c27a0297885d0d6e0520243ed9da0a59ae31c63d21b9d1dc2e4ee64f458d") false over (fun _ h => by cases h) (by kernel_rfl) (fun _ h => by cases h) fnExactApplyEdit_row_tie rfl ⟨rfl, rfl⟩ (by kernel_rfl) rfl
    (fun f fn hf hfn => by
      obtain rfl : f = 4 := Option.some.inj ((show Tryz.prog.funcNamed "loop.example/g03108/laws.FnExactApplyEdit" = some 4 by kernel_rfl).symm.trans hf) |>.symm
      obtain rfl : fn = Tryz.f4 := (Option.some.inj (Tryz.func4.symm.trans hfn)).symm
      exact ⟨by kernel_rfl, fun j t ht => by
        rw [Tryz.params4] at ht
        have hm : t ∈ [26, 40] := by simpa using Array.mem_of_getElem? ht
        have hall : ([26, 40].all fun u => !Tryz.prog.wantsStandIn u) = true := by kernel_rfl
        exact (show Tryz.prog.wantsStandIn t = false by simpa using List.all_eq_true.1 hall t hm)⟩)
    (by kernel_rfl)
#print axioms proved
end Go.Proofs.YthpdkhejeookhaaGreatDoor.fnExactApplyEdit
