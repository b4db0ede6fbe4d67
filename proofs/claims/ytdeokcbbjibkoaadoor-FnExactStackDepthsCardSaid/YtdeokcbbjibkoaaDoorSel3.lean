/- The contracts of the reference's functions on selectors. -/
import Derived.Test.YtdeokcbbjibkoaaDoorSel2
namespace Go.Proofs.YtdeokcbbjibkoaaDoor
open Go Go.RowKit

set_option maxHeartbeats 800000 in
theorem specIsSelector_any (s : ByteArray) (w : World) (hs : s.size ≤ 1048576) : Calls Tryd.prog 22 #[.string s] w fun e w' => e = .returned (.bool (isSelL s.data.toList)) ∧ Below w.heap.size w w' := by
  have Hsel := Lib.hid (specSel_eq s.data.toList)
  have Hops := Lib.hid (hasS_ops s)
  have Hwords := Lib.hid (hasS_words s)
  go_enter Tryd.func22, Tryd.ntmps22
  cases ho : hasS opsB s
  · go_wp2_with fail
    refine (l2Binaries_any _).mono ?_
    rintro e w1 ⟨rfl, rfl⟩
    go_wp2_with fail
    refine (l1Has_any _ 15 opsB s _ (fun _ => True) (owned_strs opsB _ (by decide) trivial).seen (by decide)).mono ?_
    rintro e w1 ⟨rfl, hq⟩
    have hb1 : Below w.heap.size w w1 := by
      obtain ⟨n, rfl⟩ := hq
      exact below_drewN ((Below.refl _ _).alloc (Nat.le_refl _) _) _
    clear hq
    go_wp2_with fail
    refine (splitByte_any s 58 w1 hs).mono ?_
    rintro e w2 ⟨ps, g, c, hps, rfl, hb2, how⟩
    have hB := hb1.trans (hb2.mono hb1.size)
    have hsee := how.seen
    have hlen : ps.length = (spl 58 s.data.toList).length := by rw [← hps, List.length_map]
    have hpos := spl_pos 58 s.data.toList
    rw [← hlen] at hpos
    have Hps := Lib.hid hps
    have Hlen := Lib.hid hlen
    clear hps hlen how hb1 hb2
    have hle : ps.length ≤ 1048577 := by
      have := spl_length 58 s.data.toList
      rw [size_toList] at this
      have := Hlen.out
      omega
    have hcap : ps.length ≤ c := by simpa [strs] using hsee.1
    have hP : Hid (∀ p ∈ ps, p.size ≤ 1048576) := fun p hp => by
      have h1 : p.data.toList ∈ spl 58 s.data.toList := by rw [← Hps.out]; exact List.mem_map_of_mem (f := (·.data.toList)) hp
      have h2 := spl_size 58 _ _ h1
      rw [size_toList, size_toList] at h2
      omega
    have hspec : specSel s.data.toList = if 1 < ps.length then (if (ps.getLast?.map (·.data.toList)) = some [] then ps.dropLast.all (fun p => isPartL p.data.toList) && decide (ps.length - 1 ≤ 4) else false) else isPartL s.data.toList && !isWordL s.data.toList := by
      unfold specSel
      rw [← Hops.out, ho, ← Hlen.out, ← Hps.out, List.getLast?_map, ← List.map_dropLast, List.all_map]
      rfl
    have Hspec := Lib.hid hspec
    clear hspec
    by_cases h1 : (1 : Int) < ps.length
    · obtain ⟨b, o, hA, _, hcell⟩ := hsee.str_at (k := ps.length - 1) (by omega)
      simp only [Option.some.injEq, Addr.mk.injEq, and_true] at hA
      obtain ⟨rfl, rfl⟩ := hA
      rw [Nat.zero_add] at hcell
      cases he : (ps[ps.length - 1]).toList.isEmpty
      · have hlast : ¬ (ps.getLast?.map (·.data.toList)) = some [] := by
          rw [List.getLast?_eq_getElem?, List.getElem?_eq_getElem (by omega), Option.map_some, ← Lib.toList_data]
          intro h
          simp only [Option.some.injEq] at h
          rw [h] at he
          cases he
        have Hlast := Lib.hid hlast
        clear hlast
        go_wp2
        go_ret
        exact ⟨ret_bool (by rw [← Hsel.out, Hspec.out, if_pos (by omega), if_neg Hlast.out]), hB⟩
      · have hlast : (ps.getLast?.map (·.data.toList)) = some [] := by
          rw [List.getLast?_eq_getElem?, List.getElem?_eq_getElem (by omega), Option.map_some, ← Lib.toList_data]
          rw [List.isEmpty_iff.1 he]
        have Hlast := Lib.hid hlast
        have hfin : specSel s.data.toList = (ps.dropLast.all (fun p => isPartL p.data.toList) && decide (ps.length - 1 ≤ 4)) := by
          rw [Hspec.out, if_pos (by omega), if_pos hlast]
        have Hfin := Lib.hid hfin
        clear hlast hfin
        have h2 : (1 : Int) ≤ ps.length := by omega
        have h3 : (ps.length : Int) - 1 ≤ c := by omega
        have hn1 : ((ps.length : Int) == 1) = false := by simp; omega
        go_wp2_with fail
        go_loopw [5] (fun i wr => ∃ k n : Nat, k ≤ ps.length - 1 ∧ i = .int .i64 k ∧ wr = w2.drewN n ∧ (ps.dropLast.all fun p => isPartL p.data.toList) = (ps.dropLast.drop k).all fun p => isPartL p.data.toList) (fun i _ => ps.length - (intOf i).toNat)
        case atStart => exact ⟨0, 0, Nat.zero_le _, rfl, rfl, rfl⟩
        case round =>
          obtain ⟨k, n, hk, rfl, rfl, hr⟩ := hrel
          have Hr := Lib.hid hr
          clear hr
          by_cases hlt : k < ps.length - 1
          · obtain ⟨b, o, hA, _, hcellk⟩ := hsee.str_at (k := k) (by omega)
            simp only [Option.some.injEq, Addr.mk.injEq, and_true] at hA
            obtain ⟨rfl, rfl⟩ := hA
            rw [Nat.zero_add] at hcellk
            have hsp := hP.out ps[k] (List.getElem_mem (by omega))
            have hdr : ps.dropLast.drop k = ps[k] :: ps.dropLast.drop (k + 1) := by
              rw [List.drop_eq_getElem_cons (by simp; omega), List.getElem_dropLast]
            have Hdr := Lib.hid hdr
            clear hdr
            cases hq : isPartL ps[k].data.toList
            · go_wp2_with (go_at_call 46; refine (l2IsName_any ps[k] _ hsp).mono ?_; rintro e w' ⟨rfl, m, rfl⟩)
              go_ret
              exact ⟨ret_bool (by rw [← Hsel.out, Hfin.out, Hr.out, Hdr.out, List.all_cons, hq]; rfl), below_drewN hB _⟩
            · go_wp2_with (go_at_call 46; refine (l2IsName_any ps[k] _ hsp).mono ?_; rintro e w' ⟨rfl, m, rfl⟩)
              go_roundw
              case rel => exact ⟨k + 1, _, by omega, by go_num, rfl, by rw [Hr.out, Hdr.out, List.all_cons, hq]; rfl⟩
              case measure => simp [intOf]; omega
          · have hall : (ps.dropLast.all fun p => isPartL p.data.toList) = true := by rw [Hr.out, List.drop_eq_nil_of_le (by simp; omega)]; rfl
            have Hall := Lib.hid hall
            clear hall
            go_wp2
            go_ret
            exact ⟨ret_bool (by rw [← Hsel.out, Hfin.out, Hall.out, Bool.true_and, decide_eq_decide]; omega), below_drewN hB _⟩
    · have hone : ps.length = 1 := by omega
      obtain ⟨p, rfl⟩ := List.length_eq_one_iff.1 hone
      have hp : p = s := by
        have h2 := Hps.out
        have h3 := spl_one 58 s.data.toList (by rw [← Hlen.out]; rfl)
        rw [h3] at h2
        simp only [List.map_cons, List.map_nil, List.cons.injEq, and_true] at h2
        exact bytes_eq h2
      subst hp
      have hfin : specSel p.data.toList = (isPartL p.data.toList && !isWordL p.data.toList) := by rw [Hspec.out, if_neg (by simp)]
      have Hfin := Lib.hid hfin
      obtain ⟨b, o, hA, _, hcell⟩ := hsee.str_at (k := 0) (by simp)
      simp only [Option.some.injEq, Addr.mk.injEq, and_true, List.getElem_cons_zero] at hA hcell
      obtain ⟨rfl, rfl⟩ := hA
      rw [Nat.zero_add] at hcell
      clear hfin hone h1 hpos hle
      go_wp2_with fail
      go_loopw [5] (fun i wr => ∃ k : Nat, k ≤ 1 ∧ i = .int .i64 k ∧ Below w.heap.size w wr ∧ wr.cell? ⟨g, 0, none⟩ = some (.string p) ∧ (k = 0 ∨ isNameL p.data.toList = true)) (fun i _ => 1 - (intOf i).toNat)
      case atStart => exact ⟨0, by omega, rfl, hB, hcell, .inl rfl⟩
      case round =>
        obtain ⟨k, hk, rfl, hbr, hc, hr⟩ := hrel
        by_cases hlt : k < 1
        · obtain rfl : k = 0 := by omega
          have hgr : g < wr.heap.size := World.block_lt_of_cell? wr _ hc
          clear hr
          cases hq : isPartL p.data.toList
          · go_wp2_with (go_at_call 46; refine (l2IsName_any p _ hs).mono ?_; rintro e w' ⟨rfl, m, rfl⟩)
            go_ret
            exact ⟨ret_bool (by rw [← Hsel.out, Hfin.out, hq]; rfl), below_drewN hbr _⟩
          · go_wp2_with fail
            refine (l2IsName_any p _ hs).mono ?_
            rintro e w3 ⟨rfl, hq3⟩
            have hb3 := q_below hq3
            have hbr3 := hbr.trans (hb3.mono hbr.size)
            have hc3 := (hb3.cell (p := ⟨g, 0, none⟩) hgr).trans hc
            clear hq3 hb3 hc
            go_wp2_with fail
            refine (l2Words_any _).mono ?_
            rintro e w4 ⟨rfl, rfl⟩
            go_wp2_with fail
            refine (l1Has_any _ 7 wordsB p _ (fun _ => True) (owned_strs wordsB _ (by decide) trivial).seen (by decide)).mono ?_
            rintro e w5 ⟨rfl, n5, rfl⟩
            have hb5 : Below w.heap.size w ((w3.alloc (.cells (wordsB.map Value.string).toArray 9)).drewN n5) := below_drewN (hbr3.alloc hbr3.size _) _
            have hc5 : ((w3.alloc (.cells (wordsB.map Value.string).toArray 9)).drewN n5).cell? ⟨g, 0, none⟩ = some (.string p) := by
              show (w3.alloc _).cell? _ = _
              rw [World.cell?_alloc_lt w3 _ _ (World.block_lt_of_cell? w3 _ hc3)]; exact hc3
            generalize (w3.alloc (.cells (wordsB.map Value.string).toArray 9)).drewN n5 = w6 at hb5 hc5
            cases hw : hasS wordsB p
            · go_wp2_with fail
              go_roundw
              case rel => exact ⟨1, by omega, rfl, hb5, hc5, .inr (by rw [isNameL, hq, ← Hwords.out, hw]; rfl)⟩
              case measure => simp [intOf]
            · go_wp2_with fail
              go_ret
              exact ⟨ret_bool (by rw [← Hsel.out, Hfin.out, hq, ← Hwords.out, hw]; rfl), hb5⟩
        · obtain rfl : k = 1 := by omega
          have hn : isNameL p.data.toList = true := by
            rcases hr with h | h
            · cases h
            · exact h
          have Hn := Lib.hid hn
          clear hr hn
          go_wp2_with fail
          go_ret
          exact ⟨ret_bool (by rw [← Hsel.out, Hfin.out]; exact Hn.out.symm), hbr⟩
  · go_wp2_with fail
    refine (l2Binaries_any _).mono ?_
    rintro e w1 ⟨rfl, rfl⟩
    go_wp2_with fail
    refine (l1Has_any _ 15 opsB s _ (fun _ => True) (owned_strs opsB _ (by decide) trivial).seen (by decide)).mono ?_
    rintro e w1 ⟨rfl, hq⟩
    have hb1 : Below w.heap.size w w1 := by
      obtain ⟨n, rfl⟩ := hq
      exact below_drewN ((Below.refl _ _).alloc (Nat.le_refl _) _) _
    go_wp2
    go_ret
    exact ⟨ret_bool (by rw [isSelL, ← Hops.out, ho]; rfl), hb1⟩


set_option maxHeartbeats 400000 in
theorem specCountArgs_any (s : ByteArray) (w : World) (hs : s.size ≤ 1048576) : Calls Tryd.prog 67 #[.string s] w fun e w' => e = .returned (.int .i64 (nArgsL s.data.toList)) ∧ Below w.heap.size w w' := by
  have Hargs := Lib.hid (specArgs_eq s.data.toList)
  have Hsel := Lib.hid (specSel_eq s.data.toList)
  have Hops := Lib.hid (hasS_ops s)
  cases hq : isSelL s.data.toList
  · go_enter Tryd.func67, Tryd.ntmps67
    go_wp2_with fail
    refine (specIsSelector_any s w hs).mono ?_
    rintro e w1 ⟨rfl, hb1⟩
    go_wp2_with fail
    go_ret
    exact ⟨ret_int (by rw [← Hargs.out, specArgs, Hsel.out, hq]; rfl), hb1⟩
  · cases ho : hasS opsB s
    all_goals
      go_enter Tryd.func67, Tryd.ntmps67
      go_wp2_with fail
      refine (specIsSelector_any s w hs).mono ?_
      rintro e w1 ⟨rfl, hb1⟩
      go_wp2_with fail
      refine (l2Binaries_any _).mono ?_
      rintro e w2 ⟨rfl, rfl⟩
      go_wp2_with fail
      refine (l1Has_any _ 15 opsB s _ (fun _ => True) (owned_strs opsB _ (by decide) trivial).seen (by decide)).mono ?_
      rintro e w3 ⟨rfl, hq3⟩
      have hb3 : Below w.heap.size w w3 := by
        obtain ⟨n, rfl⟩ := hq3
        exact below_drewN (hb1.alloc hb1.size _) _
      go_wp2_with fail
    · refine (splitByte_any s 58 w3 hs).mono ?_
      rintro e w4 ⟨ps, g, c, hps, rfl, hb4, how⟩
      have hlen : ps.length = (spl 58 s.data.toList).length := by rw [← hps, List.length_map]
      have hl2 := spl_length 58 s.data.toList
      rw [size_toList, ← hlen] at hl2
      have Hlen := Lib.hid hlen
      have hps' := Lib.hid hps
      clear hlen hps
      go_wp2_with fail
      go_ret
      exact ⟨ret_int (by rw [← Hargs.out, specArgs, Hsel.out, hq, ← Hops.out, ho, ← Hlen.out]; rfl), hb3.trans (hb4.mono hb3.size)⟩
    · go_ret
      exact ⟨ret_int (by rw [← Hargs.out, specArgs, Hsel.out, hq, ← Hops.out, ho]; rfl), hb3⟩

end Go.Proofs.YtdeokcbbjibkoaaDoor
