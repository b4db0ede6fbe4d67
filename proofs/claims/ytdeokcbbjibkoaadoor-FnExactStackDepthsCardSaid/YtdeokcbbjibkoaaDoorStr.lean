/- The contracts of the small functions on numbers and strings that both the program and the reference lean on. -/
import Derived.Test.YtdeokcbbjibkoaaDoorBase
import Derived.Test.YtdeokcbbjibkoaaDoorChecked
import Derived.Deep.QuietTactic
import Derived.BigQuiet
import Derived.Lib.Strings
import Derived.WideShapes
namespace Go.Proofs.YtdeokcbbjibkoaaDoor
open Go Go.RowKit

/-- n lies from a to b. -/
def inR (n a b : Int) : Bool := decide (a ≤ n ∧ n ≤ b)
theorem inR_t {n a b : Int} (h : a ≤ n ∧ n ≤ b) : inR n a b = true := by simp [inR, h]
theorem inR_f {n a b : Int} (h : ¬ (a ≤ n ∧ n ≤ b)) : inR n a b = false := by simp only [inR, decide_eq_false_iff_not]; exact h

theorem ret_str {a b : ByteArray} (h : a = b) : Ending.returned (.string a) = .returned (.string b) := by rw [h]
theorem ret_int {k : IntKind} {a b : Int} (h : a = b) : Ending.returned (.int k a) = .returned (.int k b) := by rw [h]
theorem ret_bool {a b : Bool} (h : a = b) : Ending.returned (.bool a) = .returned (.bool b) := by rw [h]

set_option maxHeartbeats 400000 in
theorem within_any (n a b : Int) (w : World) : Calls Tryd.prog 25 #[.int .i64 n, .int .i64 a, .int .i64 b] w fun e w' => e = .returned (.bool (inR n a b)) ∧ w = w' := by
  by_cases h1 : a ≤ n
  all_goals by_cases h2 : n ≤ b
  all_goals
    go_enter Tryd.func25, Tryd.ntmps25
    go_wp2
    go_ret
    exact ⟨ret_bool (by simp [inR]; omega), rfl⟩

def letter (b : UInt8) : Bool := decide ((97 ≤ (b.toNat : Int) ∧ (b.toNat : Int) ≤ 122) ∨ (65 ≤ (b.toNat : Int) ∧ (b.toNat : Int) ≤ 90))
def digit (b : UInt8) : Bool := decide (48 ≤ (b.toNat : Int) ∧ (b.toNat : Int) ≤ 57)
/-- A letter or a digit. -/
def lod (b : UInt8) : Bool := letter b || digit b

theorem isDigit_any (b : UInt8) (w : World) : Calls Tryd.prog 59 #[.int .u8 (b.toNat : Int)] w fun e w' => e = .returned (.bool (digit b)) ∧ w = w' := by
  go_enter Tryd.func59, Tryd.ntmps59
  go_wp2
  all_goals (go_ret; exact ⟨ret_bool (by simp [digit]; omega), rfl⟩)
theorem l2Digit_any (b : UInt8) (w : World) : Calls Tryd.prog 55 #[.int .u8 (b.toNat : Int)] w fun e w' => e = .returned (.bool (digit b)) ∧ w = w' := by
  go_enter Tryd.func55, Tryd.ntmps55
  go_wp2
  all_goals (go_ret; exact ⟨ret_bool (by simp [digit]; omega), rfl⟩)
theorem isLetter_any (b : UInt8) (w : World) : Calls Tryd.prog 82 #[.int .u8 (b.toNat : Int)] w fun e w' => e = .returned (.bool (letter b)) ∧ w = w' := by
  go_enter Tryd.func82, Tryd.ntmps82
  go_wp2
  all_goals (go_ret; exact ⟨ret_bool (by rw [Bool.eq_iff_iff]; simp [letter]; omega), rfl⟩)
theorem l2Letter_any (b : UInt8) (w : World) : Calls Tryd.prog 65 #[.int .u8 (b.toNat : Int)] w fun e w' => e = .returned (.bool (letter b)) ∧ w = w' := by
  go_enter Tryd.func65, Tryd.ntmps65
  go_wp2
  all_goals (go_ret; exact ⟨ret_bool (by rw [Bool.eq_iff_iff]; simp [letter]; omega), rfl⟩)

/-- How many letters and digits a text begins with. -/
def runLen : List UInt8 → Nat
  | [] => 0
  | b :: r => if lod b then runLen r + 1 else 0
theorem runLen_le (l : List UInt8) : runLen l ≤ l.length := by
  induction l with
  | nil => simp [runLen]
  | cons b r ih => simp only [runLen, List.length_cons]; split <;> omega

theorem drop_byte (s : ByteArray) {k : Nat} (h : k < s.size) : s.data.toList.drop k = s[k] :: s.data.toList.drop (k + 1) := by
  rw [List.drop_eq_getElem_cons (by simpa using h)]; rfl
theorem size_toList (s : ByteArray) : s.data.toList.length = s.size := by rw [Array.length_toList]; rfl
theorem runLen_step (s : ByteArray) {k : Nat} (h : k < s.size) : runLen (s.data.toList.drop k) = if lod s[k] then runLen (s.data.toList.drop (k + 1)) + 1 else 0 := by
  rw [drop_byte s h]; rfl
theorem runLen_end (s : ByteArray) {k : Nat} (h : ¬ k < s.size) : runLen (s.data.toList.drop k) = 0 := by
  rw [List.drop_eq_nil_of_le (by rw [size_toList]; omega)]; rfl

set_option maxHeartbeats 400000 in
theorem runOf_any (s : ByteArray) (w : World) (hs : s.size ≤ 1048576) : Calls Tryd.prog 83 #[.string s] w fun e w' => e = .returned (.string (s.extract 0 (runLen s.data.toList))) ∧ ∃ n, w' = w.drewN n := by
  go_enter Tryd.func83, Tryd.ntmps83
  go_wp2
  go_loopw [3] (fun i wr => ∃ k n : Nat, k ≤ s.size ∧ i = .int .i64 k ∧ wr = w.drewN n ∧ runLen s.data.toList = k + runLen (s.data.toList.drop k)) (fun i _ => s.size - (intOf i).toNat)
  case atStart => exact ⟨0, 0, Nat.zero_le _, rfl, rfl, by simp⟩
  case round =>
    obtain ⟨k, n, hk, rfl, rfl, hr⟩ := hrel
    have Hr := Lib.hid hr
    clear hr
    by_cases hlt : k < s.size
    · cases hl : letter s[k] <;> cases hd : digit s[k]
      all_goals
        go_wp2_with (first | (go_at_call 82; refine (isLetter_any s[k] _).mono ?_; rintro e w' ⟨rfl, rfl⟩) | (go_at_call 59; refine (isDigit_any s[k] _).mono ?_; rintro e w' ⟨rfl, rfl⟩))
        first
          | (
              have hq := runLen_step s hlt
              rw [if_pos (by simp [lod, hl, hd])] at hq
              go_roundw
              case rel => exact ⟨k + 1, n, by omega, by go_num, rfl, by have := Hr.out; omega⟩
              case measure => simp [intOf]; omega)
          | (
              have hq := runLen_step s hlt
              rw [if_neg (by simp [lod, hl, hd])] at hq
              go_ret
              exact ⟨ret_str (by rw [Hr.out, hq, Nat.add_zero]), n, rfl⟩)
    · go_wp2
      go_ret
      exact ⟨ret_str (by rw [Hr.out, runLen_end s hlt, Nat.add_zero]), n, rfl⟩

set_option maxHeartbeats 400000 in
theorem l2Run_any (s : ByteArray) (at_ : Nat) (w : World) (hs : s.size ≤ 1048576) (ha : at_ ≤ s.size) : Calls Tryd.prog 66 #[.string s, .int .i64 at_] w fun e w' => e = .returned (.int .i64 ((at_ + runLen (s.data.toList.drop at_) : Nat) : Int)) ∧ ∃ n, w' = w.drewN n := by
  go_enter Tryd.func66, Tryd.ntmps66
  go_wp2
  go_loopw [1] (fun i wr => ∃ k n : Nat, k ≤ s.size ∧ i = .int .i64 k ∧ wr = w.drewN n ∧ at_ + runLen (s.data.toList.drop at_) = k + runLen (s.data.toList.drop k)) (fun i _ => s.size - (intOf i).toNat)
  case atStart => exact ⟨at_, 0, ha, rfl, rfl, rfl⟩
  case round =>
    obtain ⟨k, n, hk, rfl, rfl, hr⟩ := hrel
    have Hr := Lib.hid hr
    clear hr
    by_cases hlt : k < s.size
    · cases hl : letter s[k] <;> cases hd : digit s[k]
      all_goals
        go_wp2_with (first | (go_at_call 65; refine (l2Letter_any s[k] _).mono ?_; rintro e w' ⟨rfl, rfl⟩) | (go_at_call 55; refine (l2Digit_any s[k] _).mono ?_; rintro e w' ⟨rfl, rfl⟩))
        first
          | (
              have hq := runLen_step s hlt
              rw [if_pos (by simp [lod, hl, hd])] at hq
              go_roundw
              case rel => exact ⟨k + 1, n, by omega, by go_num, rfl, by have := Hr.out; omega⟩
              case measure => simp [intOf]; omega)
          | (
              have hq := runLen_step s hlt
              rw [if_neg (by simp [lod, hl, hd])] at hq
              go_ret
              exact ⟨ret_int (by rw [Hr.out, hq, Nat.add_zero]), n, rfl⟩)
    · go_wp2
      go_ret
      exact ⟨ret_int (by rw [Hr.out, runLen_end s hlt, Nat.add_zero]), n, rfl⟩

/-- Letters and digits, the first one a letter, of the length of a name. -/
def isPartL : List UInt8 → Bool
  | [] => false
  | b :: r => decide (r.length < 20) && letter b && r.all lod

theorem runLen_all (l : List UInt8) : runLen l = l.length ↔ l.all lod = true := by
  induction l with
  | nil => simp [runLen]
  | cons b r ih =>
    have := runLen_le r
    simp only [runLen, List.length_cons, List.all_cons, Bool.and_eq_true]
    split
    · rename_i h; rw [h]; simp only [true_and]; rw [← ih]; omega
    · rename_i h; constructor
      · intro h2; omega
      · intro h2; exact absurd h2.1 h

theorem bytes_eq {a b : ByteArray} (h : a.data.toList = b.data.toList) : a = b := WideShapes.bytes_inj h
theorem extract_take (s : ByteArray) (k : Nat) : (s.extract 0 k).data.toList = s.data.toList.take k := by
  rw [Lib.extract_data]; simp

theorem run_self (s : ByteArray) : ((s.extract 0 (runLen s.data.toList)).toList == s.toList) = s.data.toList.all lod := by
  have h1 := runLen_le s.data.toList
  rw [Lib.toList_data, Lib.toList_data, extract_take]
  by_cases h : s.data.toList.all lod = true
  · rw [h, (runLen_all _).2 h, List.take_length]; simp
  · rw [Bool.eq_false_iff.2 h, beq_eq_false_iff_ne]
    intro e
    have h2 := congrArg List.length e
    rw [List.length_take] at h2
    exact h ((runLen_all _).1 (by omega))

theorem isPartL_nil (s : ByteArray) (h : s.size = 0) : isPartL s.data.toList = false := by
  have : s.data.toList = [] := List.eq_nil_of_length_eq_zero (by rw [size_toList]; exact h)
  rw [this]; rfl
theorem isPartL_cons (s : ByteArray) (h : 0 < s.size) : isPartL s.data.toList = (decide (s.size ≤ 20) && letter s[0] && s.data.toList.all lod) := by
  have h0 := drop_byte s h
  rw [List.drop_zero] at h0
  have hl := size_toList s
  rw [h0] at hl ⊢
  have hd : decide ((List.drop (0 + 1) s.data.toList).length < 20) = decide (s.size ≤ 20) := by
    rw [List.length_cons] at hl
    simp only [decide_eq_decide]; omega
  simp only [isPartL, hd, List.all_cons]
  by_cases hlt : letter s[0] = true
  · have hx : lod s[0] = true := by simp [lod, hlt]
    rw [hlt, hx]; simp
  · rw [Bool.eq_false_iff.2 hlt]; simp

set_option maxHeartbeats 400000 in
theorem isPart_any (s : ByteArray) (w : World) (hs : s.size ≤ 1048576) : Calls Tryd.prog 70 #[.string s] w fun e w' => e = .returned (.bool (isPartL s.data.toList)) ∧ ∃ n, w' = w.drewN n := by
  go_enter Tryd.func70, Tryd.ntmps70
  by_cases h1 : 1 ≤ (s.size : Int) ∧ (s.size : Int) ≤ 20
  · have hin := inR_t h1
    have h0 : 0 < s.size := by omega
    have hf := isPartL_cons s h0
    rw [decide_eq_true (by omega : s.size ≤ 20)] at hf
    have Hf := Lib.hid hf
    clear hf
    cases hl : letter s[0]
    all_goals
      go_wp2_with (first | (go_at_call 25; refine (within_any _ _ _ _).mono ?_; rintro e w' ⟨rfl, rfl⟩) | (go_at_call 82; refine (isLetter_any s[0] _).mono ?_; rintro e w' ⟨rfl, rfl⟩) | (go_at_call 83; refine (runOf_any s _ hs).mono ?_; rintro e w' ⟨rfl, n, rfl⟩))
      go_ret
      first
        | exact ⟨ret_bool (by rw [Hf.out, hl]; rfl), 0, rfl⟩
        | exact ⟨ret_bool (by rw [Hf.out, hl, run_self]; rfl), _, rfl⟩
  · have hin := inR_f h1
    go_wp2_with (first | (go_at_call 25; refine (within_any _ _ _ _).mono ?_; rintro e w' ⟨rfl, rfl⟩))
    go_ret
    refine ⟨ret_bool ?_, 0, rfl⟩
    by_cases h0 : s.size = 0
    · rw [isPartL_nil s h0]
    · rw [isPartL_cons s (by omega), decide_eq_false (by omega)]; rfl

end Go.Proofs.YtdeokcbbjibkoaaDoor
