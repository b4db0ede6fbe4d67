/- ParseValue: what the program computes is what the reference computes. Plain Lean, no program in sight. -/
import Derived.Test.YtagmokkjkmiblaaDoorPvB
import Derived.Lib.Bytealg
import Derived.Lib.AtoiAll
namespace Go.Proofs.YtagmokkjkmiblaaDoor
open Go Go.RowKit

/- Decimal digits. -/
theorem dd_small {u : Nat} (h : u < 10) : Lib.decDigits u = [UInt8.ofNat (48 + u)] := by rw [Lib.decDigits, dif_pos h]
theorem dd_big {u : Nat} (h : ¬ u < 10) : Lib.decDigits u = Lib.decDigits (u / 10) ++ [UInt8.ofNat (48 + u % 10)] := by rw [Lib.decDigits, dif_neg h]
theorem dig_toNat {d : Nat} (h : d < 10) : (UInt8.ofNat (48 + d)).toNat = 48 + d := by
  rw [UInt8.toNat_ofNat']; omega
theorem parse_dd (u : Nat) : u ≤ 9223372036854775808 → ∀ r, Lib.parseUint10 0 (Lib.decDigits u ++ r) = Lib.parseUint10 u r := by
  induction u using Nat.strongRecOn with
  | _ u ih =>
    intro hu r
    by_cases h : u < 10
    · rw [dd_small h]
      show Lib.parseUint10 0 (UInt8.ofNat (48 + u) :: r) = _
      rw [Lib.parseUint10, dig_toNat h, if_pos (by omega), if_neg (by omega), if_neg (by omega)]
      congr 1; omega
    · rw [dd_big h, List.append_assoc, ih (u / 10) (by omega) (by omega)]
      show Lib.parseUint10 (u / 10) (UInt8.ofNat (48 + u % 10) :: r) = _
      rw [Lib.parseUint10, dig_toNat (by omega), if_pos (by omega), if_neg (by omega), if_neg (by omega)]
      congr 1; omega
theorem wrap_id {n : Int} (h : i64 n) : IntKind.i64.wrap n = n := IntWalk.i64_in _ (by unfold i64 at h; omega)
theorem whv_dd (u : Nat) : u ≤ 9223372036854775808 → whv (Lib.decDigits u) = IntKind.i64.wrap (u : Int) := by
  induction u using Nat.strongRecOn with
  | _ u ih =>
    intro hu
    by_cases h : u < 10
    · rw [dd_small h]
      show whv ([] ++ [UInt8.ofNat (48 + u)]) = _
      rw [whv_snoc, dig_toNat h]
      show IntKind.i64.wrap (IntKind.i64.wrap (10 * 0) + (((48 + u : Nat) : Int) - 48)) = _
      rw [wrap_id (n := 10 * 0) (by unfold i64; omega)]
      congr 1; omega
    · rw [dd_big h, whv_snoc, dig_toNat (by omega), ih (u / 10) (by omega) (by omega), wrap_id (n := ((u / 10 : Nat) : Int)) (by unfold i64; omega), wrap_id (n := 10 * ((u / 10 : Nat) : Int)) (by unfold i64; omega)]
      congr 1; omega
theorem dd_digits (u : Nat) : (Lib.decDigits u).all digit = true := by
  induction u using Nat.strongRecOn with
  | _ u ih =>
    have hd : ∀ d, d < 10 → digit (UInt8.ofNat (48 + d)) = true := by
      intro d hd
      have : d = 0 ∨ d = 1 ∨ d = 2 ∨ d = 3 ∨ d = 4 ∨ d = 5 ∨ d = 6 ∨ d = 7 ∨ d = 8 ∨ d = 9 := by omega
      rcases this with rfl | rfl | rfl | rfl | rfl | rfl | rfl | rfl | rfl | rfl <;> rfl
    by_cases h : u < 10
    · rw [dd_small h, List.all_cons, hd u h]; rfl
    · rw [dd_big h, List.all_append, ih (u / 10) (by omega), List.all_cons, hd (u % 10) (by omega)]; rfl
theorem dd_head (u : Nat) : ∃ d r, d < 10 ∧ Lib.decDigits u = UInt8.ofNat (48 + d) :: r := by
  induction u using Nat.strongRecOn with
  | _ u ih =>
    by_cases h : u < 10
    · exact ⟨u, [], h, dd_small h⟩
    · obtain ⟨d, r, hd, hr⟩ := ih (u / 10) (by omega)
      exact ⟨d, r ++ [UInt8.ofNat (48 + u % 10)], hd, by rw [dd_big h, hr]; rfl⟩
theorem dd_len {u : Nat} (h : u ≤ 9223372036854775808) : 1 ≤ (Lib.decDigits u).length ∧ (Lib.decDigits u).length ≤ 19 := by
  rw [Lib.decDigits_length]
  refine ⟨?_, nDigits_le 18 u (by omega)⟩
  by_cases h1 : u < 10
  · rw [Lib.nDigits_small h1]; omega
  · rw [Lib.nDigits_big h1]; omega
theorem ne45 {d : Nat} (h : d < 10) : (UInt8.ofNat (48 + d)).toNat ≠ 45 ∧ (UInt8.ofNat (48 + d)).toNat ≠ 43 := by rw [dig_toNat h]; omega

/-- What strconv.Atoi gives as the number. -/
def anyV (s : ByteArray) : Int := match Lib.atoiAll s.data.toList with | .ok v => v | .syntax => 0 | .range => Lib.atoiSat s.data.toList
theorem itoa_neg' (u : Nat) (h : 1 ≤ u) : Lib.itoa (-(u : Int)) = 45 :: Lib.decDigits u := by unfold Lib.itoa; rw [if_pos (by omega)]; congr 2; omega
theorem itoa_pos' (u : Nat) : Lib.itoa (u : Int) = Lib.decDigits u := by unfold Lib.itoa; rw [if_neg (by omega)]; congr 1
theorem mag_dd {u : Nat} (h : u ≤ 9223372036854775808) : Lib.parseMag (Lib.decDigits u) = .ok u := by
  unfold Lib.parseMag
  obtain ⟨d, r, _, hr⟩ := dd_head u
  rw [if_neg (by rw [hr]; simp)]
  have := parse_dd u h []
  rw [List.append_nil] at this
  rw [this]; rfl
theorem atoi_numB (m : Int) (hm : i64 m) : Lib.atoiAll (Lib.itoa m) = .ok m := by
  unfold i64 at hm
  by_cases h : m < 0
  · obtain ⟨u, rfl⟩ : ∃ u : Nat, m = -(u : Int) := ⟨m.natAbs, by omega⟩
    rw [itoa_neg' u (by omega)]
    unfold Lib.atoiAll
    have e1 : (45 : UInt8).toNat = 45 := rfl
    simp only [e1, or_true, if_true, true_and, not_true_eq_false, false_and, if_false]
    rw [mag_dd (by omega)]
    simp only []
    rw [if_neg (by omega)]
  · obtain ⟨u, rfl⟩ : ∃ u : Nat, m = (u : Int) := ⟨m.natAbs, by omega⟩
    rw [itoa_pos' u]
    obtain ⟨d, r, hd, hr⟩ := dd_head u
    have hmag := mag_dd (u := u) (by omega)
    rw [hr] at hmag ⊢
    obtain ⟨n1, n2⟩ := ne45 hd
    unfold Lib.atoiAll
    simp only [n1, n2, or_self, if_false, hmag, not_false_eq_true, true_and, false_and]
    rw [if_neg (by omega)]
theorem anyV_numB (m : Int) (hm : i64 m) : anyV (numB m) = m := by
  unfold anyV
  show (match Lib.atoiAll (Lib.itoa m).toArray.toList with | .ok v => v | .syntax => 0 | .range => _) = m
  rw [List.toList_toArray, atoi_numB m hm]
theorem anyV_nil : anyV ⟨#[]⟩ = 0 := rfl
theorem anyV_bd (s : ByteArray) : i64 (anyV s) := by
  unfold anyV i64
  match h : Lib.atoiAll s.data.toList with
  | .syntax => simp
  | .range => simp only []; unfold Lib.atoiSat; split <;> omega
  | .ok v =>
    simp only []
    unfold Lib.atoiAll at h
    split at h
    · cases h
    · dsimp only at h
      split at h
      · cases h
      · cases h
      · split at h
        · cases h
        · split at h
          · cases h
          · injection h with h
            split at h <;> omega
theorem wholeL_numB (m : Int) (hm : i64 m) : wholeL (numB m) = (m, true) := by
  have hl : (numB m).data.toList = Lib.itoa m := by show (Lib.itoa m).toArray.toList = _; rw [List.toList_toArray]
  unfold i64 at hm
  by_cases h : m < 0
  · obtain ⟨u, rfl⟩ : ∃ u : Nat, m = -(u : Int) := ⟨m.natAbs, by omega⟩
    have hi := itoa_neg' u (by omega)
    have hh : (numB (-(u : Int))).data.toList.head? = some 45 := by rw [hl, hi]; rfl
    have hu : (unsign (numB (-(u : Int)))).data.toList = Lib.decDigits u := by
      unfold unsign
      rw [if_pos hh]
      rw [ByteArray.data_extract, Array.toList_extract, hl, hi]
      have hz : (numB (-(u : Int))).size = (Lib.decDigits u).length + 1 := by
        rw [← size_toList, hl, hi]; rfl
      rw [hz]
      simp [List.extract]
    obtain ⟨l1, l2⟩ := dd_len (u := u) (by omega)
    have hz2 : (unsign (numB (-(u : Int)))).size = (Lib.decDigits u).length := by rw [← size_toList, hu]
    unfold wholeL
    dsimp only
    rw [if_neg (by rw [hz2, hu, dd_digits]; rintro (h | h | h); omega; omega; cases h), if_pos hh, hu, whv_dd u (by omega)]
    have e : IntKind.i64.wrap (0 - IntKind.i64.wrap (u : Int)) = -(u : Int) := by
      by_cases h8 : u = 9223372036854775808
      · subst h8; rfl
      · rw [wrap_id (n := (u : Int)) (by unfold i64; omega), wrap_id (by unfold i64; omega)]; omega
    rw [e]; simp
  · obtain ⟨u, rfl⟩ : ∃ u : Nat, m = (u : Int) := ⟨m.natAbs, by omega⟩
    have hi := itoa_pos' u
    obtain ⟨d, r, hd, hr⟩ := dd_head u
    have hh : ¬ (numB (u : Int)).data.toList.head? = some 45 := by
      rw [hl, hi, hr]
      intro h2
      injection h2 with h2
      exact (ne45 hd).1 (by rw [h2]; rfl)
    obtain ⟨l1, l2⟩ := dd_len (u := u) (by omega)
    have hz2 : (numB (u : Int)).size = (Lib.decDigits u).length := by rw [← size_toList, hl, hi]
    unfold wholeL unsign
    dsimp only
    rw [if_neg hh, if_neg (by rw [hz2, hl, hi, dd_digits]; rintro (h | h | h); omega; omega; cases h), if_neg hh, hl, hi, whv_dd u (by omega), wrap_id (n := (u : Int)) (by unfold i64; omega)]
    simp
end Go.Proofs.YtagmokkjkmiblaaDoor
