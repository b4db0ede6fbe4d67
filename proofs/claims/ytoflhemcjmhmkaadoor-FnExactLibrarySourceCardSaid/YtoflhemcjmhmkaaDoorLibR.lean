/- LibrarySource: the reference's. Written by gen_lib.py. -/
import Derived.Test.YtoflhemcjmhmkaaDoorLibS
namespace Go.Proofs.YtoflhemcjmhmkaaDoor
open Go Go.RowKit

set_option maxRecDepth 8000 in
set_option maxHeartbeats 1000000 in
theorem specSrc_1 (s : ByteArray) (w : World) (h : okLib 1 s = true) : Calls Tryd.prog 7 #[.int .i64 1, .string s] w fun e w' => LibPost 1 s w e w' := by
  have H := Lib.hid h
  obtain ⟨_, hd, hs1, hs2⟩ := okLib_ways h
  have HD := Lib.hid hd
  have hw5 : inR 1 1 5 = true := rfl
  have hdec : decide (s.size ≤ 10) = true := decide_eq_true hs2
  have HL := Lib.hid (arrL_length s hs2)
  have HA : (⟨(arrL s.data.toList).toArray⟩ : ByteArray).size ≤ 400 := by have := arrL_length s hs2; show (arrL s.data.toList).toArray.size ≤ _; simpa using this
  obtain ⟨AR, hAR⟩ : ∃ x, x = (⟨(arrL s.data.toList).toArray⟩ : ByteArray) := ⟨_, rfl⟩
  rw [← hAR] at HA
  have HAR := Lib.hid hAR
  have HT := Lib.hid (show AR.data.toList = arrL s.data.toList by rw [hAR])
  have hd0 := digit_b (allD_at hd (k := 0) (by omega))
  have hT1 : s.data.toList.take 1 = [s[0]] := by
    have := drop_byte s (k := 0) (by omega)
    rw [List.drop_zero] at this
    rw [this]; rfl
  have HX := Lib.hid (show (numB ((s[0].toNat : Int) - 48)).data.toList = s.data.toList.take 1 by rw [numB_digit hd0, hT1])
  have hnz := numB_size (n := (s[0].toNat : Int) - 48) (by omega) (by omega)
  have i1 : (1 : Int) ≤ (s.size : Int) := by omega
  have i2 : ((s.size : Int) == 0) = false := beq_eq_false_iff_ne.2 (by omega)
  have i3 : (0 : Int) < (s.size : Int) := by omega
  clear h hd hAR hT1
  have HP : ∀ e w', DigPost s w e w' → ∃ b o c, e = .returned (.tuple #[.slice (some ⟨b, o, none⟩) s.size c, .bool true]) ∧ Seen w' (· < w'.heap.size) (.sl (some ⟨b, o, none⟩) c 1 (ints (digN s.data.toList))) ∧ Below w.heap.size w w' ∧ w'.cell? ⟨b, o, none⟩ = some (.int .i64 ((s[0].toNat : Int) - 48)) := by
    intro e w' ⟨h1, hb⟩
    rw [if_pos HD.out] at h1
    obtain ⟨A, c, he, ho⟩ := h1
    obtain ⟨b, o, rfl, _, hc⟩ := ho.seen.here.int_at (k := 0) (by rw [digN_length, size_toList]; omega)
    exact ⟨b, o, c, by rw [he, hdec], ho.seen.here, hb, by rw [show (digN s.data.toList)[0]'(by rw [digN_length, size_toList]; omega) = (s[0].toNat : Int) - 48 by simp [digN]; rfl] at hc; exact hc⟩
  have HP := Lib.hid HP
  clear hdec
  go_enter Tryd.func7, Tryd.ntmps7
  go_wp2_with fail
  refine (l29Digits_any s _ (by omega)).mono ?_
  intro e w1 hp
  obtain ⟨b, o, c, rfl, hsee, hb1, hc0⟩ := HP.out _ _ hp
  clear hp
  go_wp2_with (first
    | (go_at_call 28; refine (l1In_any _ _ _ _).mono ?_; rintro e w' ⟨rfl, rfl⟩)
    | (go_at_call 29; refine (specFormatInt_any _ _ (by omega) (by omega)).mono ?_; rintro e w2 ⟨rfl, hb2⟩; have hB := hb1.trans (hb2.mono hb1.size)))
  go_ret2
  refine libPost_yes H.out ?_ hB
  simp only [tl_append, HX.out, HT.out, libL]
  simp only [List.append_assoc]; rfl

set_option maxRecDepth 8000 in
set_option maxHeartbeats 1000000 in
theorem specSrc_2 (s : ByteArray) (w : World) (h : okLib 2 s = true) : Calls Tryd.prog 7 #[.int .i64 2, .string s] w fun e w' => LibPost 2 s w e w' := by
  have H := Lib.hid h
  obtain ⟨_, hd, hs1, hs2⟩ := okLib_ways h
  have HD := Lib.hid hd
  have hw5 : inR 2 1 5 = true := rfl
  have hdec : decide (s.size ≤ 10) = true := decide_eq_true hs2
  have HL := Lib.hid (arrL_length s hs2)
  have HA : (⟨(arrL s.data.toList).toArray⟩ : ByteArray).size ≤ 400 := by have := arrL_length s hs2; show (arrL s.data.toList).toArray.size ≤ _; simpa using this
  obtain ⟨AR, hAR⟩ : ∃ x, x = (⟨(arrL s.data.toList).toArray⟩ : ByteArray) := ⟨_, rfl⟩
  rw [← hAR] at HA
  have HAR := Lib.hid hAR
  have HT := Lib.hid (show AR.data.toList = arrL s.data.toList by rw [hAR])
  have hd0 := digit_b (allD_at hd (k := 0) (by omega))
  have hT1 : s.data.toList.take 1 = [s[0]] := by
    have := drop_byte s (k := 0) (by omega)
    rw [List.drop_zero] at this
    rw [this]; rfl
  have HX := Lib.hid (show (numB ((s[0].toNat : Int) - 48)).data.toList = s.data.toList.take 1 by rw [numB_digit hd0, hT1])
  have hnz := numB_size (n := (s[0].toNat : Int) - 48) (by omega) (by omega)
  have i1 : (1 : Int) ≤ (s.size : Int) := by omega
  have i2 : ((s.size : Int) == 0) = false := beq_eq_false_iff_ne.2 (by omega)
  have i3 : (0 : Int) < (s.size : Int) := by omega
  clear h hd hAR hT1
  have HP : ∀ e w', DigPost s w e w' → ∃ b o c, e = .returned (.tuple #[.slice (some ⟨b, o, none⟩) s.size c, .bool true]) ∧ Seen w' (· < w'.heap.size) (.sl (some ⟨b, o, none⟩) c 1 (ints (digN s.data.toList))) ∧ Below w.heap.size w w' ∧ w'.cell? ⟨b, o, none⟩ = some (.int .i64 ((s[0].toNat : Int) - 48)) := by
    intro e w' ⟨h1, hb⟩
    rw [if_pos HD.out] at h1
    obtain ⟨A, c, he, ho⟩ := h1
    obtain ⟨b, o, rfl, _, hc⟩ := ho.seen.here.int_at (k := 0) (by rw [digN_length, size_toList]; omega)
    exact ⟨b, o, c, by rw [he, hdec], ho.seen.here, hb, by rw [show (digN s.data.toList)[0]'(by rw [digN_length, size_toList]; omega) = (s[0].toNat : Int) - 48 by simp [digN]; rfl] at hc; exact hc⟩
  have HP := Lib.hid HP
  clear hdec
  go_enter Tryd.func7, Tryd.ntmps7
  go_wp2_with fail
  refine (l29Digits_any s _ (by omega)).mono ?_
  intro e w1 hp
  obtain ⟨b, o, c, rfl, hsee, hb1, hc0⟩ := HP.out _ _ hp
  clear hp
  go_wp2_with (first
    | (go_at_call 28; refine (l1In_any _ _ _ _).mono ?_; rintro e w' ⟨rfl, rfl⟩)
    | (go_at_call 29; refine (specFormatInt_any _ _ (by omega) (by omega)).mono ?_; rintro e w2 ⟨rfl, hb2⟩; have hB := hb1.trans (hb2.mono hb1.size))
    | (go_at_call 30; refine (l29Array_any _ c s _ hs2 HD.out (hsee.below hb2).here).mono ?_; rintro e w3 ⟨he, hb3⟩; rw [← HAR.out] at he; obtain rfl := he; have hB := hB.trans (hb3.mono hB.size)))
  go_ret2
  refine libPost_yes H.out ?_ hB
  simp only [tl_append, HX.out, HT.out, libL]
  simp only [List.append_assoc]; rfl

set_option maxRecDepth 8000 in
set_option maxHeartbeats 1000000 in
theorem specSrc_3 (s : ByteArray) (w : World) (h : okLib 3 s = true) : Calls Tryd.prog 7 #[.int .i64 3, .string s] w fun e w' => LibPost 3 s w e w' := by
  have H := Lib.hid h
  obtain ⟨_, hd, hs1, hs2⟩ := okLib_ways h
  have HD := Lib.hid hd
  have hw5 : inR 3 1 5 = true := rfl
  have hdec : decide (s.size ≤ 10) = true := decide_eq_true hs2
  have HL := Lib.hid (arrL_length s hs2)
  have HA : (⟨(arrL s.data.toList).toArray⟩ : ByteArray).size ≤ 400 := by have := arrL_length s hs2; show (arrL s.data.toList).toArray.size ≤ _; simpa using this
  obtain ⟨AR, hAR⟩ : ∃ x, x = (⟨(arrL s.data.toList).toArray⟩ : ByteArray) := ⟨_, rfl⟩
  rw [← hAR] at HA
  have HAR := Lib.hid hAR
  have HT := Lib.hid (show AR.data.toList = arrL s.data.toList by rw [hAR])
  have hd0 := digit_b (allD_at hd (k := 0) (by omega))
  have hT1 : s.data.toList.take 1 = [s[0]] := by
    have := drop_byte s (k := 0) (by omega)
    rw [List.drop_zero] at this
    rw [this]; rfl
  have HX := Lib.hid (show (numB ((s[0].toNat : Int) - 48)).data.toList = s.data.toList.take 1 by rw [numB_digit hd0, hT1])
  have hnz := numB_size (n := (s[0].toNat : Int) - 48) (by omega) (by omega)
  have i1 : (1 : Int) ≤ (s.size : Int) := by omega
  have i2 : ((s.size : Int) == 0) = false := beq_eq_false_iff_ne.2 (by omega)
  have i3 : (0 : Int) < (s.size : Int) := by omega
  clear h hd hAR hT1
  have HP : ∀ e w', DigPost s w e w' → ∃ b o c, e = .returned (.tuple #[.slice (some ⟨b, o, none⟩) s.size c, .bool true]) ∧ Seen w' (· < w'.heap.size) (.sl (some ⟨b, o, none⟩) c 1 (ints (digN s.data.toList))) ∧ Below w.heap.size w w' ∧ w'.cell? ⟨b, o, none⟩ = some (.int .i64 ((s[0].toNat : Int) - 48)) := by
    intro e w' ⟨h1, hb⟩
    rw [if_pos HD.out] at h1
    obtain ⟨A, c, he, ho⟩ := h1
    obtain ⟨b, o, rfl, _, hc⟩ := ho.seen.here.int_at (k := 0) (by rw [digN_length, size_toList]; omega)
    exact ⟨b, o, c, by rw [he, hdec], ho.seen.here, hb, by rw [show (digN s.data.toList)[0]'(by rw [digN_length, size_toList]; omega) = (s[0].toNat : Int) - 48 by simp [digN]; rfl] at hc; exact hc⟩
  have HP := Lib.hid HP
  clear hdec
  go_enter Tryd.func7, Tryd.ntmps7
  go_wp2_with fail
  refine (l29Digits_any s _ (by omega)).mono ?_
  intro e w1 hp
  obtain ⟨b, o, c, rfl, hsee, hb1, hc0⟩ := HP.out _ _ hp
  clear hp
  go_wp2_with (first
    | (go_at_call 28; refine (l1In_any _ _ _ _).mono ?_; rintro e w' ⟨rfl, rfl⟩)
    | (go_at_call 29; refine (specFormatInt_any _ _ (by omega) (by omega)).mono ?_; rintro e w2 ⟨rfl, hb2⟩; have hB := hb1.trans (hb2.mono hb1.size)))
  go_ret2
  refine libPost_yes H.out ?_ hB
  simp only [tl_append, HX.out, HT.out, libL]
  simp only [List.append_assoc]; rfl

set_option maxRecDepth 8000 in
set_option maxHeartbeats 1000000 in
theorem specSrc_4 (s : ByteArray) (w : World) (h : okLib 4 s = true) : Calls Tryd.prog 7 #[.int .i64 4, .string s] w fun e w' => LibPost 4 s w e w' := by
  have H := Lib.hid h
  obtain ⟨_, hd, hs1, hs2⟩ := okLib_ways h
  have HD := Lib.hid hd
  have hw5 : inR 4 1 5 = true := rfl
  have hdec : decide (s.size ≤ 10) = true := decide_eq_true hs2
  have HL := Lib.hid (arrL_length s hs2)
  have HA : (⟨(arrL s.data.toList).toArray⟩ : ByteArray).size ≤ 400 := by have := arrL_length s hs2; show (arrL s.data.toList).toArray.size ≤ _; simpa using this
  obtain ⟨AR, hAR⟩ : ∃ x, x = (⟨(arrL s.data.toList).toArray⟩ : ByteArray) := ⟨_, rfl⟩
  rw [← hAR] at HA
  have HAR := Lib.hid hAR
  have HT := Lib.hid (show AR.data.toList = arrL s.data.toList by rw [hAR])
  have hd0 := digit_b (allD_at hd (k := 0) (by omega))
  have hT1 : s.data.toList.take 1 = [s[0]] := by
    have := drop_byte s (k := 0) (by omega)
    rw [List.drop_zero] at this
    rw [this]; rfl
  have HX := Lib.hid (show (numB ((s[0].toNat : Int) - 48)).data.toList = s.data.toList.take 1 by rw [numB_digit hd0, hT1])
  have hnz := numB_size (n := (s[0].toNat : Int) - 48) (by omega) (by omega)
  have i1 : (1 : Int) ≤ (s.size : Int) := by omega
  have i2 : ((s.size : Int) == 0) = false := beq_eq_false_iff_ne.2 (by omega)
  have i3 : (0 : Int) < (s.size : Int) := by omega
  clear h hd hAR hT1
  have HP : ∀ e w', DigPost s w e w' → ∃ b o c, e = .returned (.tuple #[.slice (some ⟨b, o, none⟩) s.size c, .bool true]) ∧ Seen w' (· < w'.heap.size) (.sl (some ⟨b, o, none⟩) c 1 (ints (digN s.data.toList))) ∧ Below w.heap.size w w' ∧ w'.cell? ⟨b, o, none⟩ = some (.int .i64 ((s[0].toNat : Int) - 48)) := by
    intro e w' ⟨h1, hb⟩
    rw [if_pos HD.out] at h1
    obtain ⟨A, c, he, ho⟩ := h1
    obtain ⟨b, o, rfl, _, hc⟩ := ho.seen.here.int_at (k := 0) (by rw [digN_length, size_toList]; omega)
    exact ⟨b, o, c, by rw [he, hdec], ho.seen.here, hb, by rw [show (digN s.data.toList)[0]'(by rw [digN_length, size_toList]; omega) = (s[0].toNat : Int) - 48 by simp [digN]; rfl] at hc; exact hc⟩
  have HP := Lib.hid HP
  clear hdec
  go_enter Tryd.func7, Tryd.ntmps7
  go_wp2_with fail
  refine (l29Digits_any s _ (by omega)).mono ?_
  intro e w1 hp
  obtain ⟨b, o, c, rfl, hsee, hb1, hc0⟩ := HP.out _ _ hp
  clear hp
  go_wp2_with (first
    | (go_at_call 28; refine (l1In_any _ _ _ _).mono ?_; rintro e w' ⟨rfl, rfl⟩)
    | (go_at_call 29; refine (specFormatInt_any _ _ (by omega) (by omega)).mono ?_; rintro e w2 ⟨rfl, hb2⟩; have hB := hb1.trans (hb2.mono hb1.size))
    | (go_at_call 30; refine (l29Array_any _ c s _ hs2 HD.out (hsee.below hb2).here).mono ?_; rintro e w3 ⟨he, hb3⟩; rw [← HAR.out] at he; obtain rfl := he; have hB := hB.trans (hb3.mono hB.size)))
  go_ret2
  refine libPost_yes H.out ?_ hB
  simp only [tl_append, HX.out, HT.out, libL]
  simp only [List.append_assoc]; rfl

set_option maxRecDepth 8000 in
set_option maxHeartbeats 1000000 in
theorem specSrc_5 (s : ByteArray) (w : World) (h : okLib 5 s = true) : Calls Tryd.prog 7 #[.int .i64 5, .string s] w fun e w' => LibPost 5 s w e w' := by
  have H := Lib.hid h
  obtain ⟨_, hd, hs1, hs2⟩ := okLib_ways h
  have HD := Lib.hid hd
  have hw5 : inR 5 1 5 = true := rfl
  have hdec : decide (s.size ≤ 10) = true := decide_eq_true hs2
  have HL := Lib.hid (arrL_length s hs2)
  have HA : (⟨(arrL s.data.toList).toArray⟩ : ByteArray).size ≤ 400 := by have := arrL_length s hs2; show (arrL s.data.toList).toArray.size ≤ _; simpa using this
  obtain ⟨AR, hAR⟩ : ∃ x, x = (⟨(arrL s.data.toList).toArray⟩ : ByteArray) := ⟨_, rfl⟩
  rw [← hAR] at HA
  have HAR := Lib.hid hAR
  have HT := Lib.hid (show AR.data.toList = arrL s.data.toList by rw [hAR])
  have hd0 := digit_b (allD_at hd (k := 0) (by omega))
  have hT1 : s.data.toList.take 1 = [s[0]] := by
    have := drop_byte s (k := 0) (by omega)
    rw [List.drop_zero] at this
    rw [this]; rfl
  have HX := Lib.hid (show (numB ((s[0].toNat : Int) - 48)).data.toList = s.data.toList.take 1 by rw [numB_digit hd0, hT1])
  have hnz := numB_size (n := (s[0].toNat : Int) - 48) (by omega) (by omega)
  have i1 : (1 : Int) ≤ (s.size : Int) := by omega
  have i2 : ((s.size : Int) == 0) = false := beq_eq_false_iff_ne.2 (by omega)
  have i3 : (0 : Int) < (s.size : Int) := by omega
  clear h hd hAR hT1
  have HP : ∀ e w', DigPost s w e w' → ∃ b o c, e = .returned (.tuple #[.slice (some ⟨b, o, none⟩) s.size c, .bool true]) ∧ Seen w' (· < w'.heap.size) (.sl (some ⟨b, o, none⟩) c 1 (ints (digN s.data.toList))) ∧ Below w.heap.size w w' ∧ w'.cell? ⟨b, o, none⟩ = some (.int .i64 ((s[0].toNat : Int) - 48)) := by
    intro e w' ⟨h1, hb⟩
    rw [if_pos HD.out] at h1
    obtain ⟨A, c, he, ho⟩ := h1
    obtain ⟨b, o, rfl, _, hc⟩ := ho.seen.here.int_at (k := 0) (by rw [digN_length, size_toList]; omega)
    exact ⟨b, o, c, by rw [he, hdec], ho.seen.here, hb, by rw [show (digN s.data.toList)[0]'(by rw [digN_length, size_toList]; omega) = (s[0].toNat : Int) - 48 by simp [digN]; rfl] at hc; exact hc⟩
  have HP := Lib.hid HP
  clear hdec
  go_enter Tryd.func7, Tryd.ntmps7
  go_wp2_with fail
  refine (l29Digits_any s _ (by omega)).mono ?_
  intro e w1 hp
  obtain ⟨b, o, c, rfl, hsee, hb1, hc0⟩ := HP.out _ _ hp
  clear hp
  go_wp2_with (first
    | (go_at_call 28; refine (l1In_any _ _ _ _).mono ?_; rintro e w' ⟨rfl, rfl⟩)
    | (go_at_call 29; refine (specFormatInt_any _ _ (by omega) (by omega)).mono ?_; rintro e w2 ⟨rfl, hb2⟩; have hB := hb1.trans (hb2.mono hb1.size)))
  go_loopw [9, 10] (fun sv iv wr => ∃ (k : Nat) (acc : ByteArray), k ≤ s.size ∧ iv = .int .i64 k ∧ sv = .string acc ∧ acc.data.toList ++ divGo (s.data.toList.drop k) = lbT5 ++ divGo s.data.toList ∧ Below w.heap.size w wr ∧ Below w1.heap.size w1 wr) (fun _ iv _ => s.size - (intOf iv).toNat)
  case atStart => exact ⟨0, _, Nat.zero_le _, rfl, rfl, rfl, hB, hb2⟩
  case round =>
    obtain ⟨k, acc, hk, rfl, rfl, hr, hb, hbb⟩ := hrel
    have Hr := Lib.hid hr
    have hasz : acc.size ≤ 1100 := by
      have h1 := congrArg List.length hr
      have h2 := divGo_length s.data.toList
      rw [List.length_append, List.length_append, size_toList] at h1
      rw [size_toList] at h2
      have h3 : lbT5.length = 20 := rfl
      omega
    clear hr
    by_cases hlt : k < s.size
    · have hdk := digit_b (allD_at HD.out hlt)
      obtain ⟨b', o', hA, hbB, hcell⟩ := hsee.int_at (k := k) (by rw [digN_length, size_toList]; exact hlt)
      simp only [Option.some.injEq, Addr.mk.injEq, and_true] at hA
      obtain ⟨rfl, rfl⟩ := hA
      rw [show (digN s.data.toList)[k]'(by rw [digN_length, size_toList]; exact hlt) = (s[k].toNat : Int) - 48 by simp [digN]; rfl] at hcell
      have c0 : wr.cell? ⟨b, o + k, none⟩ = some (.int .i64 ((s[k].toNat : Int) - 48)) := (hbb.cell (p := ⟨b, o + k, none⟩) hbB).trans hcell
      clear hcell
      have hn3 := numB_size (n := (s[k].toNat : Int) - 48) (by omega) (by omega)
      have Hs := Lib.hid (divGo_step s hlt)
      have Hd1 := Lib.hid (numB_digit hdk)
      go_wp2_with (go_at_call 29; refine (specFormatInt_any _ _ (by omega) (by omega)).mono ?_; rintro e w2 ⟨rfl, hb2⟩; have gB := hb.trans (hb2.mono hb.size); have gB1 := hbb.trans (hb2.mono hbb.size))
      go_roundw
      case rel =>
        refine ⟨k + 1, _, by omega, by go_num, rfl, ?_, gB, gB1⟩
        rw [← Hr.out, Hs.out]
        simp only [tl_append, Hd1.out, List.append_assoc]
        rfl
      case measure => simp [intOf]; omega
    · have Hacc := Lib.hid (show acc.data.toList = lbT5 ++ divGo s.data.toList by have := Hr.out; rw [divGo_end s hlt, List.append_nil] at this; exact this)
      go_wp2
      go_ret2
      refine libPost_yes H.out ?_ hb
      simp only [tl_append, Hacc.out, libL]
      simp only [List.append_assoc]; rfl

set_option maxHeartbeats 1000000 in
theorem specSrc_no (k : Int) (s : ByteArray) (w : World) (hs : s.size ≤ 1048576) (h : okLib k s = false) : Calls Tryd.prog 7 #[.int .i64 k, .string s] w fun e w' => LibPost k s w e w' := by
  have H := Lib.hid h
  have h0 := h
  clear h
  by_cases hd : s.data.toList.all digit = true
  · have HP : ∀ e w', DigPost s w e w' → ∃ A c, e = .returned (.tuple #[.slice A s.size c, .bool (decide (s.size ≤ 10))]) ∧ Below w.heap.size w w' := by
      intro e w' ⟨h1, hb⟩
      rw [if_pos hd] at h1
      obtain ⟨A, c, he, _⟩ := h1
      exact ⟨A, c, he, hb⟩
    have HP := Lib.hid HP
    by_cases h10 : s.size ≤ 10
    · have hdec : decide (s.size ≤ 10) = true := decide_eq_true h10
      cases hin : inR k 1 5
      · clear h0 hd
        go_enter Tryd.func7, Tryd.ntmps7
        go_wp2_with fail
        refine (l29Digits_any s _ hs).mono ?_
        intro e w1 hp
        obtain ⟨A, c, rfl, hb1⟩ := HP.out _ _ hp
        clear hp
        go_wp2_with (first
          | (go_at_call 28; refine (l1In_any _ _ _ _).mono ?_; rintro e w' ⟨rfl, rfl⟩))
        go_ret2
        exact libPost_no H.out hb1
      · have hz : s.size = 0 := by
          have h2 : inR s.size 1 10 = false := by simpa only [okLib, hin, hd, Bool.true_and] using h0
          simp only [inR, decide_eq_false_iff_not] at h2
          omega
        have i2 : ((s.size : Int) == 0) = true := beq_iff_eq.2 (by omega)
        clear h0 hd hz
        go_enter Tryd.func7, Tryd.ntmps7
        go_wp2_with fail
        refine (l29Digits_any s _ hs).mono ?_
        intro e w1 hp
        obtain ⟨A, c, rfl, hb1⟩ := HP.out _ _ hp
        clear hp
        go_wp2_with (first
          | (go_at_call 28; refine (l1In_any _ _ _ _).mono ?_; rintro e w' ⟨rfl, rfl⟩))
        go_ret2
        exact libPost_no H.out hb1
    · have hdec : decide (s.size ≤ 10) = false := decide_eq_false h10
      clear h0 hd
      go_enter Tryd.func7, Tryd.ntmps7
      go_wp2_with fail
      refine (l29Digits_any s _ hs).mono ?_
      intro e w1 hp
      obtain ⟨A, c, rfl, hb1⟩ := HP.out _ _ hp
      clear hp
      go_wp2
      go_ret2
      exact libPost_no H.out hb1
  · have HP : ∀ e w', DigPost s w e w' → e = .returned (.tuple #[.slice none 0 0, .bool false]) ∧ Below w.heap.size w w' := by
      intro e w' ⟨h1, hb⟩
      rw [if_neg hd] at h1
      exact ⟨h1, hb⟩
    have HP := Lib.hid HP
    clear h0 hd
    go_enter Tryd.func7, Tryd.ntmps7
    go_wp2_with fail
    refine (l29Digits_any s _ hs).mono ?_
    intro e w1 hp
    obtain ⟨rfl, hb1⟩ := HP.out _ _ hp
    clear hp
    go_wp2
    go_ret2
    exact libPost_no H.out hb1

theorem specLibSource_any (k : Int) (s : ByteArray) (w : World) (hs : s.size ≤ 1048576) : Calls Tryd.prog 7 #[.int .i64 k, .string s] w fun e w' => LibPost k s w e w' := by
  cases h : okLib k s
  · exact specSrc_no k s w hs h
  · rcases (okLib_ways h).1 with rfl | rfl | rfl | rfl | rfl
    · exact specSrc_1 s w h
    · exact specSrc_2 s w h
    · exact specSrc_3 s w h
    · exact specSrc_4 s w h
    · exact specSrc_5 s w h

end Go.Proofs.YtoflhemcjmhmkaaDoor
