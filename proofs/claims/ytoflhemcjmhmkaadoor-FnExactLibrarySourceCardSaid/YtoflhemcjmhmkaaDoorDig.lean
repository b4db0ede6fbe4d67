/- The library's programs: the digits. -/
import Derived.Test.YtoflhemcjmhmkaaDoorStr
import Derived.Test.YtoflhemcjmhmkaaDoorInts
import Derived.Lib.OthersKept
import Derived.Deep.RegionWith
import Derived.Deep.RegionLaw
namespace Go.Proofs.YtoflhemcjmhmkaaDoor
open Go Go.RowKit

theorem below_touch {w wr w' : World} {A : Option Addr} {c m : Nat} {l : List PT} (hb : Below w.heap.size w wr) (ho : Owned wr (w.heap.size ≤ ·) (.sl A c m l)) (ht : Touch (· ∈ PT.rowOf A) wr w') : Below w.heap.size w w' :=
  hb.trans (ht.below hb.size fun b hbm => ho.2.2 b (by simp [PT.blocks, hbm]))

/-- The digits of a text as numbers. -/
def digN (l : List UInt8) : List Int := l.map fun b => (b.toNat : Int) - 48
theorem digN_length (l : List UInt8) : (digN l).length = l.length := by simp [digN]
theorem digit_b {b : UInt8} (h : digit b = true) : 48 ≤ (b.toNat : Int) ∧ (b.toNat : Int) ≤ 57 := by simpa [digit] using h
theorem allD_drop (s : ByteArray) {k : Nat} (h : k < s.size) : (s.data.toList.drop k).all digit = (digit s[k] && (s.data.toList.drop (k + 1)).all digit) := by
  rw [drop_byte s h, List.all_cons]
theorem allD_end (s : ByteArray) {k : Nat} (h : ¬ k < s.size) : (s.data.toList.drop k).all digit = true := by
  rw [List.drop_eq_nil_of_le (by rw [size_toList]; omega)]; rfl
theorem allD_at {s : ByteArray} (h : s.data.toList.all digit = true) {k : Nat} (hk : k < s.size) : digit s[k] = true :=
  List.all_eq_true.1 h _ (by
    have : s[k] = s.data.toList[k]'(by rw [size_toList]; exact hk) := rfl
    rw [this]; exact List.getElem_mem _)

set_option maxHeartbeats 400000 in
theorem digitsOk_any (s : ByteArray) (w : World) (hs : s.size ≤ 1048576) : Calls Tryd.prog 32 #[.string s] w fun e w' => e = .returned (.bool (s.data.toList.all digit && inR s.size 1 10)) ∧ ∃ n, w' = w.drewN n := by
  go_enter Tryd.func32, Tryd.ntmps32
  go_wp2
  go_loopw [3] (fun i wr => ∃ k n : Nat, k ≤ s.size ∧ i = .int .i64 k ∧ wr = w.drewN n ∧ s.data.toList.all digit = (s.data.toList.drop k).all digit) (fun i _ => s.size - (intOf i).toNat)
  case atStart => exact ⟨0, 0, Nat.zero_le _, rfl, rfl, rfl⟩
  case round =>
    obtain ⟨k, n, hk, rfl, rfl, hr⟩ := hrel
    have Hr := Lib.hid hr
    clear hr
    by_cases hlt : k < s.size
    · have Hd := Lib.hid (allD_drop s hlt)
      cases hl : digit s[k]
      all_goals
        go_wp2_with (go_at_call 57; refine (isDigit_any _ _).mono ?_; rintro e w' ⟨rfl, rfl⟩)
        first
          | (
              go_roundw
              case rel => exact ⟨k + 1, n, by omega, by go_num, rfl, by rw [Hr.out, Hd.out, hl]; rfl⟩
              case measure => simp [intOf]; omega)
          | (
              go_ret
              exact ⟨ret_bool (by rw [Hr.out, Hd.out, hl]; rfl), n, rfl⟩)
    · go_wp2_with (go_at_call 31; refine (within_any _ _ _ _).mono ?_; rintro e w' ⟨rfl, rfl⟩)
      go_ret
      exact ⟨ret_bool (by rw [Hr.out, allD_end s hlt]; simp), n, rfl⟩

theorem digN_take (s : ByteArray) {k : Nat} (h : k < s.size) : digN (s.data.toList.take (k + 1)) = digN (s.data.toList.take k) ++ [(s[k].toNat : Int) - 48] := by
  rw [List.take_add_one, List.getElem?_eq_getElem (by rw [size_toList]; exact h)]
  simp [digN]; rfl

/-- What the digits of a text leave. -/
def DigPost (s : ByteArray) (w : World) (e : Ending) (w' : World) : Prop :=
  (if s.data.toList.all digit then ∃ A c, e = .returned (.tuple #[.slice A s.size c, .bool (decide (s.size ≤ 10))]) ∧ Owned w' (w.heap.size ≤ ·) (.sl A c 1 (ints (digN s.data.toList))) else e = .returned (.tuple #[.slice none 0 0, .bool false])) ∧ Below w.heap.size w w'

set_option maxRecDepth 8000 in
set_option maxHeartbeats 800000 in
theorem l29Digits_any (s : ByteArray) (w : World) (hs : s.size ≤ 1048576) : Calls Tryd.prog 27 #[.string s] w fun e w' => DigPost s w e w' := by
  have hsl := size_toList s
  have Hsl := Lib.hid hsl
  clear hsl
  go_enter Tryd.func27, Tryd.ntmps27
  go_wp2
  go_loopw [4, 5] (fun o i wr => ∃ (k : Nat) (A : Option Addr) (c : Nat), k ≤ s.size ∧ i = .int .i64 k ∧ o = .slice A k c ∧ Owned wr (w.heap.size ≤ ·) (.sl A c 1 (ints (digN (s.data.toList.take k)))) ∧ Below w.heap.size w wr ∧ s.data.toList.all digit = (s.data.toList.drop k).all digit) (fun _ i _ => s.size - (intOf i).toNat)
  case atStart => exact ⟨0, _, 0, Nat.zero_le _, rfl, rfl, owned_made _ _ (Nat.le_refl _), (Below.refl _ _).alloc (Nat.le_refl _) _, rfl⟩
  case round =>
    obtain ⟨k, A, c, hk, rfl, rfl, hown, hb, hr⟩ := hrel
    have Hr := Lib.hid hr
    have hz := hb.size
    clear hr
    by_cases hlt : k < s.size
    · have Hd := Lib.hid (allD_drop s hlt)
      have Ht := Lib.hid (digN_take s hlt)
      have hub : ((s[k]).toNat : Int) ≤ 255 := by have := (s[k]).toNat_lt; omega
      cases hl : digit s[k]
      · go_wp2_with (go_at_call 56; refine (l2Digit_any _ _).mono ?_; rintro e w' ⟨rfl, rfl⟩)
        go_ret2
        exact ⟨by rw [Hr.out, Hd.out, hl]; rfl, hb⟩
      · have hd := digit_b hl
        have hnl : k = (digN (s.data.toList.take k)).length := by simp [digN, Hsl.out]; omega
        have Hnl := Lib.hid hnl
        clear hnl
        go_wp2_with (first
          | (go_at_call 56; refine (l2Digit_any _ _).mono ?_; rintro e w' ⟨rfl, rfl⟩)
          | (at_builtin; go_loud (refine wpList_append_int rfl _ _ rfl A c k _ ((s[k].toNat : Int) - 48) rfl rfl hown Hnl.out (Nat.le_succ_of_le hz) (by omega) ?_); intro A' c' w' hown' ht' _))
        rw [← Ht.out] at hown'
        have hb' := below_touch hb hown ht'
        go_roundw
        case rel => exact ⟨k + 1, A', c', by omega, by go_num, by go_num, hown', hb', by rw [Hr.out, Hd.out, hl]; rfl⟩
        case measure => simp [intOf]; omega
    · obtain rfl : k = s.size := by omega
      have htk : s.data.toList.take s.size = s.data.toList := List.take_of_length_le (by rw [Hsl.out]; exact Nat.le_refl _)
      rw [htk] at hown
      clear htk
      by_cases h10 : s.size ≤ 10
      all_goals
        go_wp2
        go_ret2
        refine ⟨?_, hb⟩
        rw [if_pos (by rw [Hr.out, allD_end s hlt])]
        exact ⟨A, c, by simp [h10] <;> omega, hown⟩
end Go.Proofs.YtoflhemcjmhmkaaDoor
