/- Part 31 of the proof: the texts Sel2, Sel3, IvC. -/
import Derived.Test.YtiihihgjiklnoaaGreatDoorPart3
import Derived.Test.YtiihihgjiklnoaaGreatDoorPart17
import Derived.Test.YtiihihgjiklnoaaGreatDoorPart30
/- The contracts of the functions on selectors, the program's and the reference's. -/
namespace Go.Proofs.YtiihihgjiklnoaaGreatDoor
open Go Go.RowKit

/-- What the parts of a keyword selector are, as a slice: nil where there are none. -/
def PartsOf (l : List UInt8) (w w' : World) (e : Ending) : Prop :=
  Below w.heap.size w w' ∧ match kwL l with
    | some ps => ∃ b o c, e = .returned (.slice (some ⟨b, o, none⟩) ps.length c)
    | none => e = .returned (.slice none 0 0)

theorem suffix_colon (s : ByteArray) : Lib.hasSuffix s.data.toList [58] = decide (s.data.toList.getLast? = some 58) := by
  rw [Bool.eq_iff_iff, decide_eq_true_iff]
  simp only [Lib.hasSuffix, List.isSuffixOf_iff_suffix, List.getLast?_eq_some_iff]
  exact ⟨fun ⟨t, h⟩ => ⟨t, h.symm⟩, fun ⟨t, h⟩ => ⟨t, h.symm⟩⟩

set_option maxHeartbeats 800000 in
theorem partsOf_any (s : ByteArray) (w : World) (hs : s.size ≤ 1048576) (hm : MaxL w) : Calls Tryz.prog 214 #[.string s] w fun e w' => PartsOf s.data.toList w w' e := by
  have hsuf := suffix_colon s
  cases hc : Lib.hasSuffix s.data.toList [58]
  · have hk : kwL s.data.toList = none := by
      rw [hsuf, decide_eq_false_iff_not] at hc
      unfold kwL; rw [if_neg hc]
    clear hsuf
    have Hk := Lib.hid hk
    clear hk
    go_enter Tryz.func214, Tryz.ntmps214
    go_wp2_with (go_at_call 269; refine (Tryz.strings_HasSuffix _ _ _ (by omega)).mono ?_; rintro e w' ⟨rfl, hw⟩; obtain rfl := hw.symm)
    go_ret
    exact ⟨Below.refl _ _, by rw [Hk.out]; rfl⟩
  · have hl : s.data.toList.getLast? = some 58 := by rw [hsuf, decide_eq_true_iff] at hc; exact hc
    have hpos : 0 < s.size := by
      rw [← size_toList]
      cases hx : s.data.toList with
      | nil => rw [hx] at hl; cases hl
      | cons => simp
    have Hl := Lib.hid hl
    clear hsuf hl
    have hsz1 : (1 : Int) ≤ s.size := by omega
    have hst : (s.extract 0 (s.size - 1)).data.toList = s.data.toList.dropLast := by
      rw [extract_take, List.dropLast_eq_take, size_toList]
    have hs1 : (s.extract 0 (s.size - 1)).size ≤ 1048576 := by rw [ByteArray.size_extract]; omega
    obtain ⟨mm, hmm⟩ := hm
    have hspl : (Lib.splitB ⟨#[58]⟩ 0 (Lib.countB (s.extract 0 (s.size - 1)) ⟨#[58]⟩) (s.extract 0 (s.size - 1))).map (·.data.toList) = spl 58 s.data.toList.dropLast := by
      rw [Lib.splitB_data, hst]
      have h1 : Lib.countB (s.extract 0 (s.size - 1)) ⟨#[58]⟩ = s.data.toList.dropLast.count 58 := by
        rw [← hst]; exact Lib.count_one 58 _
      rw [h1]
      exact split_spl 58 _
    have Hst := Lib.hid hst
    have Hspl := Lib.hid hspl
    clear hst hspl
    have hlen : Lib.countB (s.extract 0 (s.size - 1)) ⟨#[58]⟩ + 1 = (Lib.splitB ⟨#[58]⟩ 0 (Lib.countB (s.extract 0 (s.size - 1)) ⟨#[58]⟩) (s.extract 0 (s.size - 1))).length := (Lib.splitB_all ⟨#[58]⟩ (by decide) 0 _ _ rfl).symm
    have hcle := Lib.countB_le ⟨#[58]⟩ (by decide) (s.extract 0 (s.size - 1)).size _ (Nat.le_refl _)
    have hpl : (Lib.splitB ⟨#[58]⟩ 0 (Lib.countB (s.extract 0 (s.size - 1)) ⟨#[58]⟩) (s.extract 0 (s.size - 1))).length ≤ 1048576 := by
      rw [← hlen]; rw [ByteArray.size_extract] at hcle; omega
    have hpsz : ∀ p ∈ (Lib.splitB ⟨#[58]⟩ 0 (Lib.countB (s.extract 0 (s.size - 1)) ⟨#[58]⟩) (s.extract 0 (s.size - 1))), p.size ≤ 1048576 := by
      intro p hp
      have h1 : p.data.toList ∈ spl 58 s.data.toList.dropLast := by rw [← Hspl.out]; exact List.mem_map_of_mem (f := (·.data.toList)) hp
      have h2 := spl_size 58 _ _ h1
      rw [size_toList, List.length_dropLast, size_toList] at h2
      omega
    generalize hps : Lib.splitB ⟨#[58]⟩ 0 (Lib.countB (s.extract 0 (s.size - 1)) ⟨#[58]⟩) (s.extract 0 (s.size - 1)) = ps at Hspl
    go_enter Tryz.func214, Tryz.ntmps214
    go_wp2_with (go_at_call 269; refine (Tryz.strings_HasSuffix _ _ _ (by omega)).mono ?_; rintro e w' ⟨rfl, hw⟩; obtain rfl := hw.symm)
    refine (Tryz.strings_Split (s.extract 0 (s.size - 1)) ⟨#[58]⟩ mm _ (by omega) hmm (by decide)).mono ?_
    rintro e w' ⟨rfl, rfl⟩
    rw [hps]
    rw [hps] at hlen hpl hpsz
    rw [hlen]
    have hP := Lib.hid hpsz
    clear hps hlen hpsz hcle
    have hown := owned_strs (w := w) (S := (w.heap.size ≤ ·)) ps 9 (by simp only [maxLen]; omega) (Nat.le_refl _)
    have hb1 : Below w.heap.size w (w.alloc (.cells (ps.map Value.string).toArray 9)) := (Below.refl _ _).alloc (Nat.le_refl _) _
    generalize w.alloc (.cells (ps.map Value.string).toArray 9) = w1 at hown hb1
    have hsee := hown.seen
    clear hmm hown
    go_wp2_with fail
    have hkw : kwL s.data.toList = if (ps.all fun p => isPartL p.data.toList) && decide (ps.length ≤ 4) then some (spl 58 s.data.toList.dropLast) else none := by
      unfold kwL
      rw [if_pos Hl.out, ← Hspl.out, List.length_map, List.all_map]; rfl
    have hpl2 : (spl 58 s.data.toList.dropLast).length = ps.length := by rw [← Hspl.out, List.length_map]
    have Hkw := Lib.hid hkw
    have Hpl2 := Lib.hid hpl2
    clear hkw hpl2 hc hpos hsz1 hs1
    go_loopw [17] (fun i wr => ∃ k n : Nat, k ≤ ps.length ∧ i = .int .i64 k ∧ wr = w1.drewN n ∧ (ps.all fun p => isPartL p.data.toList) = (ps.drop k).all fun p => isPartL p.data.toList) (fun i _ => ps.length - (intOf i).toNat)
    case atStart => exact ⟨0, 0, Nat.zero_le _, rfl, rfl, rfl⟩
    case round =>
      obtain ⟨k, n, hk, rfl, rfl, hr⟩ := hrel
      have Hr := Lib.hid hr
      clear hr
      by_cases hlt : k < ps.length
      · obtain ⟨b, o, hA, _, hcell⟩ := hsee.str_at hlt
        simp only [Option.some.injEq, Addr.mk.injEq, and_true] at hA
        obtain ⟨rfl, rfl⟩ := hA
        rw [Nat.zero_add] at hcell
        have hsp := hP.out ps[k] (List.getElem_mem hlt)
        have hdr := List.drop_eq_getElem_cons hlt
        have Hdr := Lib.hid hdr
        clear hdr
        cases hq : isPartL ps[k].data.toList
        · go_wp2_with (go_at_call 264; refine (isPart_any ps[k] _ hsp).mono ?_; rintro e w' ⟨rfl, m, rfl⟩)
          go_ret
          refine ⟨below_drewN hb1 _, ?_⟩
          rw [Hkw.out, Hr.out, Hdr.out, List.all_cons, hq]
          rfl
        · go_wp2_with (go_at_call 264; refine (isPart_any ps[k] _ hsp).mono ?_; rintro e w' ⟨rfl, m, rfl⟩)
          go_roundw
          case rel => exact ⟨k + 1, _, by omega, by go_num, rfl, by rw [Hr.out, Hdr.out, List.all_cons, hq]; rfl⟩
          case measure => simp [intOf]; omega
      · have hall : (ps.all fun p => isPartL p.data.toList) = true := by rw [Hr.out, List.drop_eq_nil_of_le (by omega)]; rfl
        have Hall := Lib.hid hall
        clear hall
        by_cases h4 : (ps.length : Int) ≤ 4
        · go_wp2
          go_ret
          refine ⟨below_drewN hb1 _, ?_⟩
          rw [Hkw.out, Hall.out, decide_eq_true (by omega)]
          exact ⟨_, _, _, by rw [Hpl2.out]; rfl⟩
        · go_wp2
          go_ret
          refine ⟨below_drewN hb1 _, ?_⟩
          rw [Hkw.out, Hall.out, decide_eq_false (by omega)]
          rfl

theorem partsOf_none (s : ByteArray) (w : World) (hs : s.size ≤ 1048576) (hm : MaxL w) (hk : kwL s.data.toList = none) : Calls Tryz.prog 214 #[.string s] w fun e w' => e = .returned (.slice none 0 0) ∧ Below w.heap.size w w' :=
  (partsOf_any s w hs hm).mono fun e w' ⟨hb, h⟩ => by rw [hk] at h; exact ⟨h, hb⟩
theorem partsOf_some (s : ByteArray) (w : World) (hs : s.size ≤ 1048576) (hm : MaxL w) (ps : List (List UInt8)) (hk : kwL s.data.toList = some ps) : Calls Tryz.prog 214 #[.string s] w fun e w' => ∃ b o c, e = .returned (.slice (some ⟨b, o, none⟩) ps.length c) ∧ Below w.heap.size w w' :=
  (partsOf_any s w hs hm).mono fun e w' ⟨hb, h⟩ => by rw [hk] at h; obtain ⟨b, o, c, h⟩ := h; exact ⟨b, o, c, h, hb⟩

set_option maxHeartbeats 800000 in
theorem isSelector_any (s : ByteArray) (w : World) (hs : s.size ≤ 1048576) (hm : MaxL w) : Calls Tryz.prog 135 #[.string s] w fun e w' => e = .returned (.bool (isSelL s.data.toList)) ∧ Below w.heap.size w w' := by
  cases ho : isOpL s.data.toList
  · cases hn : isNameL s.data.toList
    · cases hk : kwL s.data.toList with
      | none =>
        have Hk := Lib.hid hk
        clear hk
        go_enter Tryz.func135, Tryz.ntmps135
        go_wp2_with (first
          | (go_at_call 213; refine (isOperator_any s _).mono ?_; rintro e w1 ⟨rfl, hb1⟩)
          | (go_at_call 211; refine (isName_any s _ hs).mono ?_; rintro e w2 ⟨rfl, n2, rfl⟩)
          | (go_at_call 214; refine (partsOf_none s _ hs (MaxL.below (w := w1) (hm.below hb1) (below_drewN (Below.refl _ _) _)) Hk.out).mono ?_; rintro e w3 ⟨rfl, hb3⟩))
        go_ret
        exact ⟨ret_bool (by rw [isSelL, ho, hn, Hk.out]; rfl), (below_drewN hb1 _).trans (hb3.mono hb1.size)⟩
      | some ps =>
        have Hk := Lib.hid hk
        clear hk
        go_enter Tryz.func135, Tryz.ntmps135
        go_wp2_with (first
          | (go_at_call 213; refine (isOperator_any s _).mono ?_; rintro e w1 ⟨rfl, hb1⟩)
          | (go_at_call 211; refine (isName_any s _ hs).mono ?_; rintro e w2 ⟨rfl, n2, rfl⟩)
          | (go_at_call 214; refine (partsOf_some s _ hs (MaxL.below (w := w1) (hm.below hb1) (below_drewN (Below.refl _ _) _)) ps Hk.out).mono ?_; rintro e w3 ⟨b, o, c, rfl, hb3⟩))
        go_ret
        exact ⟨ret_bool (by rw [isSelL, ho, hn, Hk.out]; rfl), (below_drewN hb1 _).trans (hb3.mono hb1.size)⟩
    · go_enter Tryz.func135, Tryz.ntmps135
      go_wp2_with (first
        | (go_at_call 213; refine (isOperator_any s _).mono ?_; rintro e w1 ⟨rfl, hb1⟩)
        | (go_at_call 211; refine (isName_any s _ hs).mono ?_; rintro e w2 ⟨rfl, n2, rfl⟩))
      go_ret
      exact ⟨ret_bool (by rw [isSelL, ho, hn]; rfl), below_drewN hb1 _⟩
  · go_enter Tryz.func135, Tryz.ntmps135
    go_wp2_with (go_at_call 213; refine (isOperator_any s _).mono ?_; rintro e w1 ⟨rfl, hb1⟩)
    go_ret
    exact ⟨ret_bool (by rw [isSelL, ho]; rfl), hb1⟩

set_option maxHeartbeats 800000 in
theorem countArgs_any (s : ByteArray) (w : World) (hs : s.size ≤ 1048576) (hm : MaxL w) : Calls Tryz.prog 136 #[.string s] w fun e w' => e = .returned (.int .i64 (nArgsL s.data.toList)) ∧ Below w.heap.size w w' := by
  cases ho : isOpL s.data.toList
  · cases hn : isNameL s.data.toList
    · cases hk : kwL s.data.toList with
      | none =>
        have Hk := Lib.hid hk
        clear hk
        go_enter Tryz.func136, Tryz.ntmps136
        go_wp2_with (first
          | (go_at_call 213; refine (isOperator_any s _).mono ?_; rintro e w1 ⟨rfl, hb1⟩)
          | (go_at_call 211; refine (isName_any s _ hs).mono ?_; rintro e w2 ⟨rfl, n2, rfl⟩)
          | (go_at_call 214; refine (partsOf_none s _ hs (MaxL.below (w := w1) (hm.below hb1) (below_drewN (Below.refl _ _) _)) Hk.out).mono ?_; rintro e w3 ⟨rfl, hb3⟩))
        go_ret
        exact ⟨ret_int (by rw [nArgsL, ho, hn, Hk.out]; rfl), (below_drewN hb1 _).trans (hb3.mono hb1.size)⟩
      | some ps =>
        have Hk := Lib.hid hk
        clear hk
        go_enter Tryz.func136, Tryz.ntmps136
        go_wp2_with fail
        refine (isOperator_any s _).mono ?_
        rintro e w1 ⟨rfl, hb1⟩
        go_wp2_with fail
        refine (isName_any s _ hs).mono ?_
        rintro e w2 ⟨rfl, n2, rfl⟩
        have hm2 : MaxL (w1.drewN n2) := MaxL.below (w := w1) (hm.below hb1) (below_drewN (Below.refl _ _) _)
        go_wp2_with fail
        refine (partsOf_some s _ hs hm2 ps Hk.out).mono ?_
        rintro e w3 ⟨b, o, c, rfl, hb3⟩
        have hm3 := hm2.below hb3
        go_wp2_with fail
        refine (partsOf_some s _ hs hm3 ps Hk.out).mono ?_
        rintro e w4 ⟨b4, o4, c4, rfl, hb4⟩
        go_wp2_with fail
        go_ret
        exact ⟨ret_int (by rw [nArgsL, ho, hn, Hk.out]; rfl), ((below_drewN hb1 _).trans (hb3.mono hb1.size)).trans (hb4.mono (Nat.le_trans hb1.size hb3.size))⟩
    · go_enter Tryz.func136, Tryz.ntmps136
      go_wp2_with (first
        | (go_at_call 213; refine (isOperator_any s _).mono ?_; rintro e w1 ⟨rfl, hb1⟩)
        | (go_at_call 211; refine (isName_any s _ hs).mono ?_; rintro e w2 ⟨rfl, n2, rfl⟩))
      go_ret
      exact ⟨ret_int (by rw [nArgsL, ho, hn]; rfl), below_drewN hb1 _⟩
  · go_enter Tryz.func136, Tryz.ntmps136
    go_wp2_with (go_at_call 213; refine (isOperator_any s _).mono ?_; rintro e w1 ⟨rfl, hb1⟩)
    go_ret
    exact ⟨ret_int (by rw [nArgsL, ho]; rfl), hb1⟩

end Go.Proofs.YtiihihgjiklnoaaGreatDoor
/- The contracts of the reference's functions on selectors. -/
namespace Go.Proofs.YtiihihgjiklnoaaGreatDoor
open Go Go.RowKit

set_option maxHeartbeats 800000 in
theorem specIsSelector_any (s : ByteArray) (w : World) (hs : s.size ≤ 1048576) : Calls Tryz.prog 203 #[.string s] w fun e w' => e = .returned (.bool (isSelL s.data.toList)) ∧ Below w.heap.size w w' := by
  have Hsel := Lib.hid (specSel_eq s.data.toList)
  have Hops := Lib.hid (hasS_ops s)
  have Hwords := Lib.hid (hasS_words s)
  go_enter Tryz.func203, Tryz.ntmps203
  cases ho : hasS opsB s
  · go_wp2_with fail
    refine (l2Binaries_any _).mono ?_
    rintro e w1 ⟨rfl, rfl⟩
    go_wp2_with fail
    refine (l1Has_any _ 15 opsB s _ (fun _ => True) (owned_strs opsB _ (by decide) trivial).seen (by decide)).mono ?_
    rintro e w1 ⟨rfl, hq⟩
    have hb1 : Below w.heap.size w w1 := by
      obtain ⟨n, rfl⟩ := hq
      exact below_drewN ((Below.refl _ _).alloc (Nat.le_refl _) _) _
    clear hq
    go_wp2_with fail
    refine (splitByte_any s 58 w1 hs).mono ?_
    rintro e w2 ⟨ps, g, c, hps, rfl, hb2, how⟩
    have hB := hb1.trans (hb2.mono hb1.size)
    have hsee := how.seen
    have hlen : ps.length = (spl 58 s.data.toList).length := by rw [← hps, List.length_map]
    have hpos := spl_pos 58 s.data.toList
    rw [← hlen] at hpos
    have Hps := Lib.hid hps
    have Hlen := Lib.hid hlen
    clear hps hlen how hb1 hb2
    have hle : ps.length ≤ 1048577 := by
      have := spl_length 58 s.data.toList
      rw [size_toList] at this
      have := Hlen.out
      omega
    have hcap : ps.length ≤ c := by simpa [strs] using hsee.1
    have hP : Hid (∀ p ∈ ps, p.size ≤ 1048576) := fun p hp => by
      have h1 : p.data.toList ∈ spl 58 s.data.toList := by rw [← Hps.out]; exact List.mem_map_of_mem (f := (·.data.toList)) hp
      have h2 := spl_size 58 _ _ h1
      rw [size_toList, size_toList] at h2
      omega
    have hspec : specSel s.data.toList = if 1 < ps.length then (if (ps.getLast?.map (·.data.toList)) = some [] then ps.dropLast.all (fun p => isPartL p.data.toList) && decide (ps.length - 1 ≤ 4) else false) else isPartL s.data.toList && !isWordL s.data.toList := by
      unfold specSel
      rw [← Hops.out, ho, ← Hlen.out, ← Hps.out, List.getLast?_map, ← List.map_dropLast, List.all_map]
      rfl
    have Hspec := Lib.hid hspec
    clear hspec
    by_cases h1 : (1 : Int) < ps.length
    · obtain ⟨b, o, hA, _, hcell⟩ := hsee.str_at (k := ps.length - 1) (by omega)
      simp only [Option.some.injEq, Addr.mk.injEq, and_true] at hA
      obtain ⟨rfl, rfl⟩ := hA
      rw [Nat.zero_add] at hcell
      cases he : (ps[ps.length - 1]).toList.isEmpty
      · have hlast : ¬ (ps.getLast?.map (·.data.toList)) = some [] := by
          rw [List.getLast?_eq_getElem?, List.getElem?_eq_getElem (by omega), Option.map_some, ← Lib.toList_data]
          intro h
          simp only [Option.some.injEq] at h
          rw [h] at he
          cases he
        have Hlast := Lib.hid hlast
        clear hlast
        go_wp2
        go_ret
        exact ⟨ret_bool (by rw [← Hsel.out, Hspec.out, if_pos (by omega), if_neg Hlast.out]), hB⟩
      · have hlast : (ps.getLast?.map (·.data.toList)) = some [] := by
          rw [List.getLast?_eq_getElem?, List.getElem?_eq_getElem (by omega), Option.map_some, ← Lib.toList_data]
          rw [List.isEmpty_iff.1 he]
        have Hlast := Lib.hid hlast
        have hfin : specSel s.data.toList = (ps.dropLast.all (fun p => isPartL p.data.toList) && decide (ps.length - 1 ≤ 4)) := by
          rw [Hspec.out, if_pos (by omega), if_pos hlast]
        have Hfin := Lib.hid hfin
        clear hlast hfin
        have h2 : (1 : Int) ≤ ps.length := by omega
        have h3 : (ps.length : Int) - 1 ≤ c := by omega
        have hn1 : ((ps.length : Int) == 1) = false := by simp; omega
        go_wp2_with fail
        go_loopw [5] (fun i wr => ∃ k n : Nat, k ≤ ps.length - 1 ∧ i = .int .i64 k ∧ wr = w2.drewN n ∧ (ps.dropLast.all fun p => isPartL p.data.toList) = (ps.dropLast.drop k).all fun p => isPartL p.data.toList) (fun i _ => ps.length - (intOf i).toNat)
        case atStart => exact ⟨0, 0, Nat.zero_le _, rfl, rfl, rfl⟩
        case round =>
          obtain ⟨k, n, hk, rfl, rfl, hr⟩ := hrel
          have Hr := Lib.hid hr
          clear hr
          by_cases hlt : k < ps.length - 1
          · obtain ⟨b, o, hA, _, hcellk⟩ := hsee.str_at (k := k) (by omega)
            simp only [Option.some.injEq, Addr.mk.injEq, and_true] at hA
            obtain ⟨rfl, rfl⟩ := hA
            rw [Nat.zero_add] at hcellk
            have hsp := hP.out ps[k] (List.getElem_mem (by omega))
            have hdr : ps.dropLast.drop k = ps[k] :: ps.dropLast.drop (k + 1) := by
              rw [List.drop_eq_getElem_cons (by simp; omega), List.getElem_dropLast]
            have Hdr := Lib.hid hdr
            clear hdr
            cases hq : isPartL ps[k].data.toList
            · go_wp2_with (go_at_call 255; refine (l2IsName_any ps[k] _ hsp).mono ?_; rintro e w' ⟨rfl, m, rfl⟩)
              go_ret
              exact ⟨ret_bool (by rw [← Hsel.out, Hfin.out, Hr.out, Hdr.out, List.all_cons, hq]; rfl), below_drewN hB _⟩
            · go_wp2_with (go_at_call 255; refine (l2IsName_any ps[k] _ hsp).mono ?_; rintro e w' ⟨rfl, m, rfl⟩)
              go_roundw
              case rel => exact ⟨k + 1, _, by omega, by go_num, rfl, by rw [Hr.out, Hdr.out, List.all_cons, hq]; rfl⟩
              case measure => simp [intOf]; omega
          · have hall : (ps.dropLast.all fun p => isPartL p.data.toList) = true := by rw [Hr.out, List.drop_eq_nil_of_le (by simp; omega)]; rfl
            have Hall := Lib.hid hall
            clear hall
            go_wp2
            go_ret
            exact ⟨ret_bool (by rw [← Hsel.out, Hfin.out, Hall.out, Bool.true_and, decide_eq_decide]; omega), below_drewN hB _⟩
    · have hone : ps.length = 1 := by omega
      obtain ⟨p, rfl⟩ := List.length_eq_one_iff.1 hone
      have hp : p = s := by
        have h2 := Hps.out
        have h3 := spl_one 58 s.data.toList (by rw [← Hlen.out]; rfl)
        rw [h3] at h2
        simp only [List.map_cons, List.map_nil, List.cons.injEq, and_true] at h2
        exact bytes_eq h2
      subst hp
      have hfin : specSel p.data.toList = (isPartL p.data.toList && !isWordL p.data.toList) := by rw [Hspec.out, if_neg (by simp)]
      have Hfin := Lib.hid hfin
      obtain ⟨b, o, hA, _, hcell⟩ := hsee.str_at (k := 0) (by simp)
      simp only [Option.some.injEq, Addr.mk.injEq, and_true, List.getElem_cons_zero] at hA hcell
      obtain ⟨rfl, rfl⟩ := hA
      rw [Nat.zero_add] at hcell
      clear hfin hone h1 hpos hle
      go_wp2_with fail
      go_loopw [5] (fun i wr => ∃ k : Nat, k ≤ 1 ∧ i = .int .i64 k ∧ Below w.heap.size w wr ∧ wr.cell? ⟨g, 0, none⟩ = some (.string p) ∧ (k = 0 ∨ isNameL p.data.toList = true)) (fun i _ => 1 - (intOf i).toNat)
      case atStart => exact ⟨0, by omega, rfl, hB, hcell, .inl rfl⟩
      case round =>
        obtain ⟨k, hk, rfl, hbr, hc, hr⟩ := hrel
        by_cases hlt : k < 1
        · obtain rfl : k = 0 := by omega
          have hgr : g < wr.heap.size := World.block_lt_of_cell? wr _ hc
          clear hr
          cases hq : isPartL p.data.toList
          · go_wp2_with (go_at_call 255; refine (l2IsName_any p _ hs).mono ?_; rintro e w' ⟨rfl, m, rfl⟩)
            go_ret
            exact ⟨ret_bool (by rw [← Hsel.out, Hfin.out, hq]; rfl), below_drewN hbr _⟩
          · go_wp2_with fail
            refine (l2IsName_any p _ hs).mono ?_
            rintro e w3 ⟨rfl, hq3⟩
            have hb3 := q_below hq3
            have hbr3 := hbr.trans (hb3.mono hbr.size)
            have hc3 := (hb3.cell (p := ⟨g, 0, none⟩) hgr).trans hc
            clear hq3 hb3 hc
            go_wp2_with fail
            refine (l2Words_any _).mono ?_
            rintro e w4 ⟨rfl, rfl⟩
            go_wp2_with fail
            refine (l1Has_any _ 7 wordsB p _ (fun _ => True) (owned_strs wordsB _ (by decide) trivial).seen (by decide)).mono ?_
            rintro e w5 ⟨rfl, n5, rfl⟩
            have hb5 : Below w.heap.size w ((w3.alloc (.cells (wordsB.map Value.string).toArray 9)).drewN n5) := below_drewN (hbr3.alloc hbr3.size _) _
            have hc5 : ((w3.alloc (.cells (wordsB.map Value.string).toArray 9)).drewN n5).cell? ⟨g, 0, none⟩ = some (.string p) := by
              show (w3.alloc _).cell? _ = _
              rw [World.cell?_alloc_lt w3 _ _ (World.block_lt_of_cell? w3 _ hc3)]; exact hc3
            generalize (w3.alloc (.cells (wordsB.map Value.string).toArray 9)).drewN n5 = w6 at hb5 hc5
            cases hw : hasS wordsB p
            · go_wp2_with fail
              go_roundw
              case rel => exact ⟨1, by omega, rfl, hb5, hc5, .inr (by rw [isNameL, hq, ← Hwords.out, hw]; rfl)⟩
              case measure => simp [intOf]
            · go_wp2_with fail
              go_ret
              exact ⟨ret_bool (by rw [← Hsel.out, Hfin.out, hq, ← Hwords.out, hw]; rfl), hb5⟩
        · obtain rfl : k = 1 := by omega
          have hn : isNameL p.data.toList = true := by
            rcases hr with h | h
            · cases h
            · exact h
          have Hn := Lib.hid hn
          clear hr hn
          go_wp2_with fail
          go_ret
          exact ⟨ret_bool (by rw [← Hsel.out, Hfin.out]; exact Hn.out.symm), hbr⟩
  · go_wp2_with fail
    refine (l2Binaries_any _).mono ?_
    rintro e w1 ⟨rfl, rfl⟩
    go_wp2_with fail
    refine (l1Has_any _ 15 opsB s _ (fun _ => True) (owned_strs opsB _ (by decide) trivial).seen (by decide)).mono ?_
    rintro e w1 ⟨rfl, hq⟩
    have hb1 : Below w.heap.size w w1 := by
      obtain ⟨n, rfl⟩ := hq
      exact below_drewN ((Below.refl _ _).alloc (Nat.le_refl _) _) _
    go_wp2
    go_ret
    exact ⟨ret_bool (by rw [isSelL, ← Hops.out, ho]; rfl), hb1⟩


set_option maxHeartbeats 400000 in
theorem specCountArgs_any (s : ByteArray) (w : World) (hs : s.size ≤ 1048576) : Calls Tryz.prog 204 #[.string s] w fun e w' => e = .returned (.int .i64 (nArgsL s.data.toList)) ∧ Below w.heap.size w w' := by
  have Hargs := Lib.hid (specArgs_eq s.data.toList)
  have Hsel := Lib.hid (specSel_eq s.data.toList)
  have Hops := Lib.hid (hasS_ops s)
  cases hq : isSelL s.data.toList
  · go_enter Tryz.func204, Tryz.ntmps204
    go_wp2_with fail
    refine (specIsSelector_any s w hs).mono ?_
    rintro e w1 ⟨rfl, hb1⟩
    go_wp2_with fail
    go_ret
    exact ⟨ret_int (by rw [← Hargs.out, specArgs, Hsel.out, hq]; rfl), hb1⟩
  · cases ho : hasS opsB s
    all_goals
      go_enter Tryz.func204, Tryz.ntmps204
      go_wp2_with fail
      refine (specIsSelector_any s w hs).mono ?_
      rintro e w1 ⟨rfl, hb1⟩
      go_wp2_with fail
      refine (l2Binaries_any _).mono ?_
      rintro e w2 ⟨rfl, rfl⟩
      go_wp2_with fail
      refine (l1Has_any _ 15 opsB s _ (fun _ => True) (owned_strs opsB _ (by decide) trivial).seen (by decide)).mono ?_
      rintro e w3 ⟨rfl, hq3⟩
      have hb3 : Below w.heap.size w w3 := by
        obtain ⟨n, rfl⟩ := hq3
        exact below_drewN (hb1.alloc hb1.size _) _
      go_wp2_with fail
    · refine (splitByte_any s 58 w3 hs).mono ?_
      rintro e w4 ⟨ps, g, c, hps, rfl, hb4, how⟩
      have hlen : ps.length = (spl 58 s.data.toList).length := by rw [← hps, List.length_map]
      have hl2 := spl_length 58 s.data.toList
      rw [size_toList, ← hlen] at hl2
      have Hlen := Lib.hid hlen
      have hps' := Lib.hid hps
      clear hlen hps
      go_wp2_with fail
      go_ret
      exact ⟨ret_int (by rw [← Hargs.out, specArgs, Hsel.out, hq, ← Hops.out, ho, ← Hlen.out]; rfl), hb3.trans (hb4.mono hb3.size)⟩
    · go_ret
      exact ⟨ret_int (by rw [← Hargs.out, specArgs, Hsel.out, hq, ← Hops.out, ho]; rfl), hb3⟩

end Go.Proofs.YtiihihgjiklnoaaGreatDoor
/- IsVerified: lists of texts (l1Has, l3Texts, slices.Equal, slices.Index, slices.Contains). -/
namespace Go.Proofs.YtiihihgjiklnoaaGreatDoor
set_option maxRecDepth 20000
open Go Go.RowKit
theorem hasS_true {l : List ByteArray} {s : ByteArray} {i : Nat} (h : i < l.length) (e : l[i] = s) : hasS l s = true := by
  unfold hasS
  exact List.any_eq_true.2 ⟨_, List.getElem_mem h, by simp [e]⟩
theorem hasS_false {l : List ByteArray} {s : ByteArray} (h : ∀ y ∈ l, y ≠ s) : hasS l s = false := by
  unfold hasS
  exact List.any_eq_false.2 fun y hy hb => h y hy (ByteArray.ext (Array.toList_inj.1 (by simpa [Lib.toList_data] using hb)))
theorem take_eq_succ {a b : List ByteArray} {i : Nat} (ha : i < a.length) (hb : i < b.length) (h : a.take i = b.take i) (e : a[i] = b[i]) : a.take (i + 1) = b.take (i + 1) := by
  rw [List.take_add_one, List.take_add_one, h, List.getElem?_eq_getElem ha, List.getElem?_eq_getElem hb, e]
section
variable {G : World → Prop}
theorem l1Has_ct (lo : Nat) (l : List ByteArray) (s : ByteArray) (hn : l.length ≤ 1048576) : Ct Tryz.prog G 202 [.sl lo 1 (strR l), .str s] (fun _ => .bool (hasS l s)) := by
  refine ct_enter Tryz.func202 rfl Tryz.ntmps202 rfl rfl fun w0 _ hG => ?_
  have hlen := strR_len l
  repeat' (first | refine W_ ?_ | refine c_ (fun hc => ?_) (fun hc => ?_) | refine g_ (fun hg => ?_) (fun hg => ?_))
  apply aw_loopk (X := Nat) [0, 1] (fun i => [(5, .int .i64 (i : Int))]) (fun _ => []) (fun i => i ≤ l.length ∧ ∀ y ∈ l.take i, y ≠ s) (fun i => l.length - i) 0 ⟨Nat.zero_le _, by simp⟩
  exact kp_; exact nw_
  · exact .refl _
  rintro i ⟨hi, hs⟩
  try dsimp only
  by_cases hlt : i < l.length
  · have hrow := strR_row hlt
    have hta := take_all (p := fun y => y ≠ s) hlt hs
    have htr := hasS_true (s := s) hlt
    generalize l[i] = x at hrow hta htr
    by_cases hx : x = s
    · rw [htr hx]
      repeat' (first | refine W_ ?_ | refine c_ (fun hc => ?_) (fun hc => ?_) | refine g_ (fun hg => ?_) (fun hg => ?_))
      exact r1_
    · repeat' (first | refine W_ ?_ | refine c_ (fun hc => ?_) (fun hc => ?_) | refine g_ (fun hg => ?_) (fun hg => ?_))
      exact aq_round (i + 1) ⟨by omega, hta hx⟩ (by omega) (.of _ nw_ od_ pk_)
  · rw [List.take_of_length_le (by omega)] at hs
    rw [hasS_false hs]
    repeat' (first | refine W_ ?_ | refine c_ (fun hc => ?_) (fun hc => ?_) | refine g_ (fun hg => ?_) (fun hg => ?_))
    exact r1_
theorem l3Texts_ct (l1 l2 : Nat) (a b : List ByteArray) (_hn : a.length ≤ 1048576) (hm : b.length ≤ 1048576) : Ct Tryz.prog G 200 [.sl l1 1 (strR a), .sl l2 1 (strR b)] (fun _ => .bool (decide (a = b))) := by
  refine ct_enter Tryz.func200 rfl Tryz.ntmps200 rfl rfl fun w0 _ hG => ?_
  have hla := strR_len a
  have hlb := strR_len b
  by_cases hl : a.length = b.length
  · repeat' (first | refine W_ ?_ | refine c_ (fun hc => ?_) (fun hc => ?_) | refine g_ (fun hg => ?_) (fun hg => ?_))
    apply aw_loopk (X := Nat) [0, 1] (fun i => [(5, .int .i64 (i : Int))]) (fun _ => []) (fun i => i ≤ a.length ∧ a.take i = b.take i) (fun i => a.length - i) 0 ⟨Nat.zero_le _, by simp⟩
    exact kp_; exact nw_
    · exact .refl _
    rintro i ⟨hi, hs⟩
    try dsimp only
    by_cases hlt : i < a.length
    · have hr1 := strR_row hlt
      have hlt2 : i < b.length := by omega
      have hr2 := strR_row hlt2
      have hta := take_eq_succ hlt hlt2 hs
      have hne : a[i] ≠ b[i] → decide (a = b) = false := fun h => decide_eq_false fun e => h (by subst e; rfl)
      generalize a[i] = x at hr1 hta hne
      generalize b[i] = y at hr2 hta hne
      by_cases hx : x = y
      · have hx' : ¬ x ≠ y := fun h => h hx
        repeat' (first | refine V_ ?_ | refine c_ (fun hc => ?_) (fun hc => ?_) | refine g_ (fun hg => ?_) (fun hg => ?_))
        exact aq_round (i + 1) ⟨by omega, hta hx⟩ (by omega) (.of _ nw_ od_ pk_)
      · have hx' : x ≠ y := hx
        rw [hne hx]
        repeat' (first | refine V_ ?_ | refine c_ (fun hc => ?_) (fun hc => ?_) | refine g_ (fun hg => ?_) (fun hg => ?_))
        exact r1_
    · rw [List.take_of_length_le (by omega), List.take_of_length_le (by omega)] at hs
      rw [decide_eq_true hs]
      repeat' (first | refine W_ ?_ | refine c_ (fun hc => ?_) (fun hc => ?_) | refine g_ (fun hg => ?_) (fun hg => ?_))
      exact r1_
  · rw [decide_eq_false (p := a = b) fun e => hl (by rw [e])]
    repeat' (first | refine W_ ?_ | refine c_ (fun hc => ?_) (fun hc => ?_) | refine g_ (fun hg => ?_) (fun hg => ?_))
    exact r1_
theorem slicesEqual_ct (l1 l2 : Nat) (a b : List ByteArray) (_hn : a.length ≤ 1048576) (hm : b.length ≤ 1048576) : Ct Tryz.prog G 210 [.sl l1 1 (strR a), .sl l2 1 (strR b)] (fun _ => .bool (decide (a = b))) := by
  refine ct_enter Tryz.func210 rfl Tryz.ntmps210 rfl rfl fun w0 _ hG => ?_
  have hla := strR_len a
  have hlb := strR_len b
  by_cases hl : a.length = b.length
  · repeat' (first | refine W_ ?_ | refine c_ (fun hc => ?_) (fun hc => ?_) | refine g_ (fun hg => ?_) (fun hg => ?_))
    apply aw_loopk (X := Nat) [0, 1, 12] (fun i => [(13, .int .i64 (i : Int))]) (fun _ => []) (fun i => i ≤ a.length ∧ a.take i = b.take i) (fun i => a.length - i) 0 ⟨Nat.zero_le _, by simp⟩
    exact kp_; exact nw_
    · exact .refl _
    rintro i ⟨hi, hs⟩
    try dsimp only
    by_cases hlt : i < a.length
    · have hr1 := strR_row hlt
      have hlt2 : i < b.length := by omega
      have hr2 := strR_row hlt2
      have hta := take_eq_succ hlt hlt2 hs
      have hne : a[i] ≠ b[i] → decide (a = b) = false := fun h => decide_eq_false fun e => h (by subst e; rfl)
      generalize a[i] = x at hr1 hta hne
      generalize b[i] = y at hr2 hta hne
      by_cases hx : x = y
      · have hx' : ¬ x ≠ y := fun h => h hx
        repeat' (first | refine V_ ?_ | refine c_ (fun hc => ?_) (fun hc => ?_) | refine g_ (fun hg => ?_) (fun hg => ?_))
        exact aq_round (i + 1) ⟨by omega, hta hx⟩ (by omega) (.of _ nw_ od_ pk_)
      · have hx' : x ≠ y := hx
        rw [hne hx]
        repeat' (first | refine V_ ?_ | refine c_ (fun hc => ?_) (fun hc => ?_) | refine g_ (fun hg => ?_) (fun hg => ?_))
        exact r1_
    · rw [List.take_of_length_le (by omega), List.take_of_length_le (by omega)] at hs
      rw [decide_eq_true hs]
      repeat' (first | refine W_ ?_ | refine c_ (fun hc => ?_) (fun hc => ?_) | refine g_ (fun hg => ?_) (fun hg => ?_))
      exact r1_
  · rw [decide_eq_false (p := a = b) fun e => hl (by rw [e])]
    repeat' (first | refine W_ ?_ | refine c_ (fun hc => ?_) (fun hc => ?_) | refine g_ (fun hg => ?_) (fun hg => ?_))
    exact r1_
end
end Go.Proofs.YtiihihgjiklnoaaGreatDoor
