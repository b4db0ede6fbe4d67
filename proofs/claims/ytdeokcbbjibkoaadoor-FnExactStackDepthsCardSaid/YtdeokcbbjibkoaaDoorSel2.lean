/- The contracts of the functions on selectors, the program's and the reference's. -/
import Derived.Test.YtdeokcbbjibkoaaDoorSel
namespace Go.Proofs.YtdeokcbbjibkoaaDoor
open Go Go.RowKit

/-- What the parts of a keyword selector are, as a slice: nil where there are none. -/
def PartsOf (l : List UInt8) (w w' : World) (e : Ending) : Prop :=
  Below w.heap.size w w' ∧ match kwL l with
    | some ps => ∃ b o c, e = .returned (.slice (some ⟨b, o, none⟩) ps.length c)
    | none => e = .returned (.slice none 0 0)

theorem suffix_colon (s : ByteArray) : Lib.hasSuffix s.data.toList [58] = decide (s.data.toList.getLast? = some 58) := by
  rw [Bool.eq_iff_iff, decide_eq_true_iff]
  simp only [Lib.hasSuffix, List.isSuffixOf_iff_suffix, List.getLast?_eq_some_iff]
  exact ⟨fun ⟨t, h⟩ => ⟨t, h.symm⟩, fun ⟨t, h⟩ => ⟨t, h.symm⟩⟩

set_option maxHeartbeats 800000 in
theorem partsOf_any (s : ByteArray) (w : World) (hs : s.size ≤ 1048576) (hm : MaxL w) : Calls Tryd.prog 52 #[.string s] w fun e w' => PartsOf s.data.toList w w' e := by
  have hsuf := suffix_colon s
  cases hc : Lib.hasSuffix s.data.toList [58]
  · have hk : kwL s.data.toList = none := by
      rw [hsuf, decide_eq_false_iff_not] at hc
      unfold kwL; rw [if_neg hc]
    clear hsuf
    have Hk := Lib.hid hk
    clear hk
    go_enter Tryd.func52, Tryd.ntmps52
    go_wp2_with (go_at_call 72; refine (Tryd.strings_HasSuffix _ _ _ (by omega)).mono ?_; rintro e w' ⟨rfl, hw⟩; obtain rfl := hw.symm)
    go_ret
    exact ⟨Below.refl _ _, by rw [Hk.out]; rfl⟩
  · have hl : s.data.toList.getLast? = some 58 := by rw [hsuf, decide_eq_true_iff] at hc; exact hc
    have hpos : 0 < s.size := by
      rw [← size_toList]
      cases hx : s.data.toList with
      | nil => rw [hx] at hl; cases hl
      | cons => simp
    have Hl := Lib.hid hl
    clear hsuf hl
    have hsz1 : (1 : Int) ≤ s.size := by omega
    have hst : (s.extract 0 (s.size - 1)).data.toList = s.data.toList.dropLast := by
      rw [extract_take, List.dropLast_eq_take, size_toList]
    have hs1 : (s.extract 0 (s.size - 1)).size ≤ 1048576 := by rw [ByteArray.size_extract]; omega
    obtain ⟨mm, hmm⟩ := hm
    have hspl : (Lib.splitB ⟨#[58]⟩ 0 (Lib.countB (s.extract 0 (s.size - 1)) ⟨#[58]⟩) (s.extract 0 (s.size - 1))).map (·.data.toList) = spl 58 s.data.toList.dropLast := by
      rw [Lib.splitB_data, hst]
      have h1 : Lib.countB (s.extract 0 (s.size - 1)) ⟨#[58]⟩ = s.data.toList.dropLast.count 58 := by
        rw [← hst]; exact Lib.count_one 58 _
      rw [h1]
      exact split_spl 58 _
    have Hst := Lib.hid hst
    have Hspl := Lib.hid hspl
    clear hst hspl
    have hlen : Lib.countB (s.extract 0 (s.size - 1)) ⟨#[58]⟩ + 1 = (Lib.splitB ⟨#[58]⟩ 0 (Lib.countB (s.extract 0 (s.size - 1)) ⟨#[58]⟩) (s.extract 0 (s.size - 1))).length := (Lib.splitB_all ⟨#[58]⟩ (by decide) 0 _ _ rfl).symm
    have hcle := Lib.countB_le ⟨#[58]⟩ (by decide) (s.extract 0 (s.size - 1)).size _ (Nat.le_refl _)
    have hpl : (Lib.splitB ⟨#[58]⟩ 0 (Lib.countB (s.extract 0 (s.size - 1)) ⟨#[58]⟩) (s.extract 0 (s.size - 1))).length ≤ 1048576 := by
      rw [← hlen]; rw [ByteArray.size_extract] at hcle; omega
    have hpsz : ∀ p ∈ (Lib.splitB ⟨#[58]⟩ 0 (Lib.countB (s.extract 0 (s.size - 1)) ⟨#[58]⟩) (s.extract 0 (s.size - 1))), p.size ≤ 1048576 := by
      intro p hp
      have h1 : p.data.toList ∈ spl 58 s.data.toList.dropLast := by rw [← Hspl.out]; exact List.mem_map_of_mem (f := (·.data.toList)) hp
      have h2 := spl_size 58 _ _ h1
      rw [size_toList, List.length_dropLast, size_toList] at h2
      omega
    generalize hps : Lib.splitB ⟨#[58]⟩ 0 (Lib.countB (s.extract 0 (s.size - 1)) ⟨#[58]⟩) (s.extract 0 (s.size - 1)) = ps at Hspl
    go_enter Tryd.func52, Tryd.ntmps52
    go_wp2_with (go_at_call 72; refine (Tryd.strings_HasSuffix _ _ _ (by omega)).mono ?_; rintro e w' ⟨rfl, hw⟩; obtain rfl := hw.symm)
    refine (Tryd.strings_Split (s.extract 0 (s.size - 1)) ⟨#[58]⟩ mm _ (by omega) hmm (by decide)).mono ?_
    rintro e w' ⟨rfl, rfl⟩
    rw [hps]
    rw [hps] at hlen hpl hpsz
    rw [hlen]
    have hP := Lib.hid hpsz
    clear hps hlen hpsz hcle
    have hown := owned_strs (w := w) (S := (w.heap.size ≤ ·)) ps 9 (by simp only [maxLen]; omega) (Nat.le_refl _)
    have hb1 : Below w.heap.size w (w.alloc (.cells (ps.map Value.string).toArray 9)) := (Below.refl _ _).alloc (Nat.le_refl _) _
    generalize w.alloc (.cells (ps.map Value.string).toArray 9) = w1 at hown hb1
    have hsee := hown.seen
    clear hmm hown
    go_wp2_with fail
    have hkw : kwL s.data.toList = if (ps.all fun p => isPartL p.data.toList) && decide (ps.length ≤ 4) then some (spl 58 s.data.toList.dropLast) else none := by
      unfold kwL
      rw [if_pos Hl.out, ← Hspl.out, List.length_map, List.all_map]; rfl
    have hpl2 : (spl 58 s.data.toList.dropLast).length = ps.length := by rw [← Hspl.out, List.length_map]
    have Hkw := Lib.hid hkw
    have Hpl2 := Lib.hid hpl2
    clear hkw hpl2 hc hpos hsz1 hs1
    go_loopw [17] (fun i wr => ∃ k n : Nat, k ≤ ps.length ∧ i = .int .i64 k ∧ wr = w1.drewN n ∧ (ps.all fun p => isPartL p.data.toList) = (ps.drop k).all fun p => isPartL p.data.toList) (fun i _ => ps.length - (intOf i).toNat)
    case atStart => exact ⟨0, 0, Nat.zero_le _, rfl, rfl, rfl⟩
    case round =>
      obtain ⟨k, n, hk, rfl, rfl, hr⟩ := hrel
      have Hr := Lib.hid hr
      clear hr
      by_cases hlt : k < ps.length
      · obtain ⟨b, o, hA, _, hcell⟩ := hsee.str_at hlt
        simp only [Option.some.injEq, Addr.mk.injEq, and_true] at hA
        obtain ⟨rfl, rfl⟩ := hA
        rw [Nat.zero_add] at hcell
        have hsp := hP.out ps[k] (List.getElem_mem hlt)
        have hdr := List.drop_eq_getElem_cons hlt
        have Hdr := Lib.hid hdr
        clear hdr
        cases hq : isPartL ps[k].data.toList
        · go_wp2_with (go_at_call 70; refine (isPart_any ps[k] _ hsp).mono ?_; rintro e w' ⟨rfl, m, rfl⟩)
          go_ret
          refine ⟨below_drewN hb1 _, ?_⟩
          rw [Hkw.out, Hr.out, Hdr.out, List.all_cons, hq]
          rfl
        · go_wp2_with (go_at_call 70; refine (isPart_any ps[k] _ hsp).mono ?_; rintro e w' ⟨rfl, m, rfl⟩)
          go_roundw
          case rel => exact ⟨k + 1, _, by omega, by go_num, rfl, by rw [Hr.out, Hdr.out, List.all_cons, hq]; rfl⟩
          case measure => simp [intOf]; omega
      · have hall : (ps.all fun p => isPartL p.data.toList) = true := by rw [Hr.out, List.drop_eq_nil_of_le (by omega)]; rfl
        have Hall := Lib.hid hall
        clear hall
        by_cases h4 : (ps.length : Int) ≤ 4
        · go_wp2
          go_ret
          refine ⟨below_drewN hb1 _, ?_⟩
          rw [Hkw.out, Hall.out, decide_eq_true (by omega)]
          exact ⟨_, _, _, by rw [Hpl2.out]; rfl⟩
        · go_wp2
          go_ret
          refine ⟨below_drewN hb1 _, ?_⟩
          rw [Hkw.out, Hall.out, decide_eq_false (by omega)]
          rfl

theorem partsOf_none (s : ByteArray) (w : World) (hs : s.size ≤ 1048576) (hm : MaxL w) (hk : kwL s.data.toList = none) : Calls Tryd.prog 52 #[.string s] w fun e w' => e = .returned (.slice none 0 0) ∧ Below w.heap.size w w' :=
  (partsOf_any s w hs hm).mono fun e w' ⟨hb, h⟩ => by rw [hk] at h; exact ⟨h, hb⟩
theorem partsOf_some (s : ByteArray) (w : World) (hs : s.size ≤ 1048576) (hm : MaxL w) (ps : List (List UInt8)) (hk : kwL s.data.toList = some ps) : Calls Tryd.prog 52 #[.string s] w fun e w' => ∃ b o c, e = .returned (.slice (some ⟨b, o, none⟩) ps.length c) ∧ Below w.heap.size w w' :=
  (partsOf_any s w hs hm).mono fun e w' ⟨hb, h⟩ => by rw [hk] at h; obtain ⟨b, o, c, h⟩ := h; exact ⟨b, o, c, h, hb⟩

set_option maxHeartbeats 800000 in
theorem countArgs_any (s : ByteArray) (w : World) (hs : s.size ≤ 1048576) (hm : MaxL w) : Calls Tryd.prog 26 #[.string s] w fun e w' => e = .returned (.int .i64 (nArgsL s.data.toList)) ∧ Below w.heap.size w w' := by
  cases ho : isOpL s.data.toList
  · cases hn : isNameL s.data.toList
    · cases hk : kwL s.data.toList with
      | none =>
        have Hk := Lib.hid hk
        clear hk
        go_enter Tryd.func26, Tryd.ntmps26
        go_wp2_with (first
          | (go_at_call 50; refine (isOperator_any s _).mono ?_; rintro e w1 ⟨rfl, hb1⟩)
          | (go_at_call 51; refine (isName_any s _ hs).mono ?_; rintro e w2 ⟨rfl, n2, rfl⟩)
          | (go_at_call 52; refine (partsOf_none s _ hs (MaxL.below (w := w1) (hm.below hb1) (below_drewN (Below.refl _ _) _)) Hk.out).mono ?_; rintro e w3 ⟨rfl, hb3⟩))
        go_ret
        exact ⟨ret_int (by rw [nArgsL, ho, hn, Hk.out]; rfl), (below_drewN hb1 _).trans (hb3.mono hb1.size)⟩
      | some ps =>
        have Hk := Lib.hid hk
        clear hk
        go_enter Tryd.func26, Tryd.ntmps26
        go_wp2_with fail
        refine (isOperator_any s _).mono ?_
        rintro e w1 ⟨rfl, hb1⟩
        go_wp2_with fail
        refine (isName_any s _ hs).mono ?_
        rintro e w2 ⟨rfl, n2, rfl⟩
        have hm2 : MaxL (w1.drewN n2) := MaxL.below (w := w1) (hm.below hb1) (below_drewN (Below.refl _ _) _)
        go_wp2_with fail
        refine (partsOf_some s _ hs hm2 ps Hk.out).mono ?_
        rintro e w3 ⟨b, o, c, rfl, hb3⟩
        have hm3 := hm2.below hb3
        go_wp2_with fail
        refine (partsOf_some s _ hs hm3 ps Hk.out).mono ?_
        rintro e w4 ⟨b4, o4, c4, rfl, hb4⟩
        go_wp2_with fail
        go_ret
        exact ⟨ret_int (by rw [nArgsL, ho, hn, Hk.out]; rfl), ((below_drewN hb1 _).trans (hb3.mono hb1.size)).trans (hb4.mono (Nat.le_trans hb1.size hb3.size))⟩
    · go_enter Tryd.func26, Tryd.ntmps26
      go_wp2_with (first
        | (go_at_call 50; refine (isOperator_any s _).mono ?_; rintro e w1 ⟨rfl, hb1⟩)
        | (go_at_call 51; refine (isName_any s _ hs).mono ?_; rintro e w2 ⟨rfl, n2, rfl⟩))
      go_ret
      exact ⟨ret_int (by rw [nArgsL, ho, hn]; rfl), below_drewN hb1 _⟩
  · go_enter Tryd.func26, Tryd.ntmps26
    go_wp2_with (go_at_call 50; refine (isOperator_any s _).mono ?_; rintro e w1 ⟨rfl, hb1⟩)
    go_ret
    exact ⟨ret_int (by rw [nArgsL, ho]; rfl), hb1⟩

end Go.Proofs.YtdeokcbbjibkoaaDoor
