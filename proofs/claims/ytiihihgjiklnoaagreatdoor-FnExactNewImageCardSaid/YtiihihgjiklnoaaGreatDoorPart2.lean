/- Part 2 of the proof: the texts Str, Shelf, Num, SelPure. -/
import Derived.Test.YtiihihgjiklnoaaGreatDoorPart1
import Derived.Test.YtiihihgjiklnoaaGreatDoorChecked
import Derived.Deep.QuietTactic
import Derived.BigQuiet
import Derived.Lib.Strings
import Derived.WideShapes
import Derived.Shelf.Utf8.RuneCount
import Derived.Shelf.Strings.Search1
import Derived.Shelf.Strings.Search2
import Derived.Shelf.Strings.Search3
import Derived.Shelf.Strings.Count
import Derived.Shelf.LaysM
import Derived.Shelf.Strings.Shaped
import Derived.Shelf.Strings.Prefix
import Derived.Shelf.Strings.Split
import Derived.Shelf.Strings.SplitShaped
import Derived.Shelf.Unicode.Decode
import Derived.Shelf.Strings.RuneCount
import Derived.Shelf.Strings.Explode
import Derived.Shelf.Bits.Mul64
import Derived.Shelf.Unicode.DecodeSlow
import Derived.Shelf.Unicode.DecodeAny
import Derived.Ground.Names2Prog
import Derived.Shelf.Slices.Clone
import Derived.Ground.SlgnProg
import Derived.Shelf.SlicesE.Clone
import Derived.Test.YtiihihgjiklnoaaGreatDoorProg
import Derived.Lib.AppendIntMem
import Derived.Lib.SplitLaws
/- The contracts of the small functions on numbers and strings that both the program and the reference lean on. -/
namespace Go.Proofs.YtiihihgjiklnoaaGreatDoor
open Go Go.RowKit

/-- n lies from a to b. -/
def inR (n a b : Int) : Bool := decide (a ≤ n ∧ n ≤ b)
theorem inR_t {n a b : Int} (h : a ≤ n ∧ n ≤ b) : inR n a b = true := by simp [inR, h]
theorem inR_f {n a b : Int} (h : ¬ (a ≤ n ∧ n ≤ b)) : inR n a b = false := by simp only [inR, decide_eq_false_iff_not]; exact h

theorem ret_str {a b : ByteArray} (h : a = b) : Ending.returned (.string a) = .returned (.string b) := by rw [h]
theorem ret_int {k : IntKind} {a b : Int} (h : a = b) : Ending.returned (.int k a) = .returned (.int k b) := by rw [h]
theorem ret_bool {a b : Bool} (h : a = b) : Ending.returned (.bool a) = .returned (.bool b) := by rw [h]

set_option maxHeartbeats 400000 in
theorem within_any (n a b : Int) (w : World) : Calls Tryz.prog 55 #[.int .i64 n, .int .i64 a, .int .i64 b] w fun e w' => e = .returned (.bool (inR n a b)) ∧ w = w' := by
  by_cases h1 : a ≤ n
  all_goals by_cases h2 : n ≤ b
  all_goals
    go_enter Tryz.func55, Tryz.ntmps55
    go_wp2
    go_ret
    exact ⟨ret_bool (by simp [inR]; omega), rfl⟩

def letter (b : UInt8) : Bool := decide ((97 ≤ (b.toNat : Int) ∧ (b.toNat : Int) ≤ 122) ∨ (65 ≤ (b.toNat : Int) ∧ (b.toNat : Int) ≤ 90))
def digit (b : UInt8) : Bool := decide (48 ≤ (b.toNat : Int) ∧ (b.toNat : Int) ≤ 57)
/-- A letter or a digit. -/
def lod (b : UInt8) : Bool := letter b || digit b

theorem isDigit_any (b : UInt8) (w : World) : Calls Tryz.prog 294 #[.int .u8 (b.toNat : Int)] w fun e w' => e = .returned (.bool (digit b)) ∧ w = w' := by
  go_enter Tryz.func294, Tryz.ntmps294
  go_wp2
  all_goals (go_ret; exact ⟨ret_bool (by simp [digit]; omega), rfl⟩)
theorem l2Digit_any (b : UInt8) (w : World) : Calls Tryz.prog 293 #[.int .u8 (b.toNat : Int)] w fun e w' => e = .returned (.bool (digit b)) ∧ w = w' := by
  go_enter Tryz.func293, Tryz.ntmps293
  go_wp2
  all_goals (go_ret; exact ⟨ret_bool (by simp [digit]; omega), rfl⟩)
theorem isLetter_any (b : UInt8) (w : World) : Calls Tryz.prog 285 #[.int .u8 (b.toNat : Int)] w fun e w' => e = .returned (.bool (letter b)) ∧ w = w' := by
  go_enter Tryz.func285, Tryz.ntmps285
  go_wp2
  all_goals (go_ret; exact ⟨ret_bool (by rw [Bool.eq_iff_iff]; simp [letter]; omega), rfl⟩)
theorem l2Letter_any (b : UInt8) (w : World) : Calls Tryz.prog 283 #[.int .u8 (b.toNat : Int)] w fun e w' => e = .returned (.bool (letter b)) ∧ w = w' := by
  go_enter Tryz.func283, Tryz.ntmps283
  go_wp2
  all_goals (go_ret; exact ⟨ret_bool (by rw [Bool.eq_iff_iff]; simp [letter]; omega), rfl⟩)

/-- How many letters and digits a text begins with. -/
def runLen : List UInt8 → Nat
  | [] => 0
  | b :: r => if lod b then runLen r + 1 else 0
theorem runLen_le (l : List UInt8) : runLen l ≤ l.length := by
  induction l with
  | nil => simp [runLen]
  | cons b r ih => simp only [runLen, List.length_cons]; split <;> omega

theorem drop_byte (s : ByteArray) {k : Nat} (h : k < s.size) : s.data.toList.drop k = s[k] :: s.data.toList.drop (k + 1) := by
  rw [List.drop_eq_getElem_cons (by simpa using h)]; rfl
theorem size_toList (s : ByteArray) : s.data.toList.length = s.size := by rw [Array.length_toList]; rfl
theorem runLen_step (s : ByteArray) {k : Nat} (h : k < s.size) : runLen (s.data.toList.drop k) = if lod s[k] then runLen (s.data.toList.drop (k + 1)) + 1 else 0 := by
  rw [drop_byte s h]; rfl
theorem runLen_end (s : ByteArray) {k : Nat} (h : ¬ k < s.size) : runLen (s.data.toList.drop k) = 0 := by
  rw [List.drop_eq_nil_of_le (by rw [size_toList]; omega)]; rfl

set_option maxHeartbeats 400000 in
theorem runOf_any (s : ByteArray) (w : World) (hs : s.size ≤ 1048576) : Calls Tryz.prog 286 #[.string s] w fun e w' => e = .returned (.string (s.extract 0 (runLen s.data.toList))) ∧ ∃ n, w' = w.drewN n := by
  go_enter Tryz.func286, Tryz.ntmps286
  go_wp2
  go_loopw [3] (fun i wr => ∃ k n : Nat, k ≤ s.size ∧ i = .int .i64 k ∧ wr = w.drewN n ∧ runLen s.data.toList = k + runLen (s.data.toList.drop k)) (fun i _ => s.size - (intOf i).toNat)
  case atStart => exact ⟨0, 0, Nat.zero_le _, rfl, rfl, by simp⟩
  case round =>
    obtain ⟨k, n, hk, rfl, rfl, hr⟩ := hrel
    have Hr := Lib.hid hr
    clear hr
    by_cases hlt : k < s.size
    · cases hl : letter s[k] <;> cases hd : digit s[k]
      all_goals
        go_wp2_with (first | (go_at_call 285; refine (isLetter_any s[k] _).mono ?_; rintro e w' ⟨rfl, rfl⟩) | (go_at_call 294; refine (isDigit_any s[k] _).mono ?_; rintro e w' ⟨rfl, rfl⟩))
        first
          | (
              have hq := runLen_step s hlt
              rw [if_pos (by simp [lod, hl, hd])] at hq
              go_roundw
              case rel => exact ⟨k + 1, n, by omega, by go_num, rfl, by have := Hr.out; omega⟩
              case measure => simp [intOf]; omega)
          | (
              have hq := runLen_step s hlt
              rw [if_neg (by simp [lod, hl, hd])] at hq
              go_ret
              exact ⟨ret_str (by rw [Hr.out, hq, Nat.add_zero]), n, rfl⟩)
    · go_wp2
      go_ret
      exact ⟨ret_str (by rw [Hr.out, runLen_end s hlt, Nat.add_zero]), n, rfl⟩

set_option maxHeartbeats 400000 in
theorem l2Run_any (s : ByteArray) (at_ : Nat) (w : World) (hs : s.size ≤ 1048576) (ha : at_ ≤ s.size) : Calls Tryz.prog 284 #[.string s, .int .i64 at_] w fun e w' => e = .returned (.int .i64 ((at_ + runLen (s.data.toList.drop at_) : Nat) : Int)) ∧ ∃ n, w' = w.drewN n := by
  go_enter Tryz.func284, Tryz.ntmps284
  go_wp2
  go_loopw [1] (fun i wr => ∃ k n : Nat, k ≤ s.size ∧ i = .int .i64 k ∧ wr = w.drewN n ∧ at_ + runLen (s.data.toList.drop at_) = k + runLen (s.data.toList.drop k)) (fun i _ => s.size - (intOf i).toNat)
  case atStart => exact ⟨at_, 0, ha, rfl, rfl, rfl⟩
  case round =>
    obtain ⟨k, n, hk, rfl, rfl, hr⟩ := hrel
    have Hr := Lib.hid hr
    clear hr
    by_cases hlt : k < s.size
    · cases hl : letter s[k] <;> cases hd : digit s[k]
      all_goals
        go_wp2_with (first | (go_at_call 283; refine (l2Letter_any s[k] _).mono ?_; rintro e w' ⟨rfl, rfl⟩) | (go_at_call 293; refine (l2Digit_any s[k] _).mono ?_; rintro e w' ⟨rfl, rfl⟩))
        first
          | (
              have hq := runLen_step s hlt
              rw [if_pos (by simp [lod, hl, hd])] at hq
              go_roundw
              case rel => exact ⟨k + 1, n, by omega, by go_num, rfl, by have := Hr.out; omega⟩
              case measure => simp [intOf]; omega)
          | (
              have hq := runLen_step s hlt
              rw [if_neg (by simp [lod, hl, hd])] at hq
              go_ret
              exact ⟨ret_int (by rw [Hr.out, hq, Nat.add_zero]), n, rfl⟩)
    · go_wp2
      go_ret
      exact ⟨ret_int (by rw [Hr.out, runLen_end s hlt, Nat.add_zero]), n, rfl⟩

/-- Letters and digits, the first one a letter, of the length of a name. -/
def isPartL : List UInt8 → Bool
  | [] => false
  | b :: r => decide (r.length < 20) && letter b && r.all lod

theorem runLen_all (l : List UInt8) : runLen l = l.length ↔ l.all lod = true := by
  induction l with
  | nil => simp [runLen]
  | cons b r ih =>
    have := runLen_le r
    simp only [runLen, List.length_cons, List.all_cons, Bool.and_eq_true]
    split
    · rename_i h; rw [h]; simp only [true_and]; rw [← ih]; omega
    · rename_i h; constructor
      · intro h2; omega
      · intro h2; exact absurd h2.1 h

theorem bytes_eq {a b : ByteArray} (h : a.data.toList = b.data.toList) : a = b := WideShapes.bytes_inj h
theorem extract_take (s : ByteArray) (k : Nat) : (s.extract 0 k).data.toList = s.data.toList.take k := by
  rw [Lib.extract_data]; simp

theorem run_self (s : ByteArray) : ((s.extract 0 (runLen s.data.toList)).toList == s.toList) = s.data.toList.all lod := by
  have h1 := runLen_le s.data.toList
  rw [Lib.toList_data, Lib.toList_data, extract_take]
  by_cases h : s.data.toList.all lod = true
  · rw [h, (runLen_all _).2 h, List.take_length]; simp
  · rw [Bool.eq_false_iff.2 h, beq_eq_false_iff_ne]
    intro e
    have h2 := congrArg List.length e
    rw [List.length_take] at h2
    exact h ((runLen_all _).1 (by omega))

theorem isPartL_nil (s : ByteArray) (h : s.size = 0) : isPartL s.data.toList = false := by
  have : s.data.toList = [] := List.eq_nil_of_length_eq_zero (by rw [size_toList]; exact h)
  rw [this]; rfl
theorem isPartL_cons (s : ByteArray) (h : 0 < s.size) : isPartL s.data.toList = (decide (s.size ≤ 20) && letter s[0] && s.data.toList.all lod) := by
  have h0 := drop_byte s h
  rw [List.drop_zero] at h0
  have hl := size_toList s
  rw [h0] at hl ⊢
  have hd : decide ((List.drop (0 + 1) s.data.toList).length < 20) = decide (s.size ≤ 20) := by
    rw [List.length_cons] at hl
    simp only [decide_eq_decide]; omega
  simp only [isPartL, hd, List.all_cons]
  by_cases hlt : letter s[0] = true
  · have hx : lod s[0] = true := by simp [lod, hlt]
    rw [hlt, hx]; simp
  · rw [Bool.eq_false_iff.2 hlt]; simp

set_option maxHeartbeats 400000 in
theorem isPart_any (s : ByteArray) (w : World) (hs : s.size ≤ 1048576) : Calls Tryz.prog 264 #[.string s] w fun e w' => e = .returned (.bool (isPartL s.data.toList)) ∧ ∃ n, w' = w.drewN n := by
  go_enter Tryz.func264, Tryz.ntmps264
  by_cases h1 : 1 ≤ (s.size : Int) ∧ (s.size : Int) ≤ 20
  · have hin := inR_t h1
    have h0 : 0 < s.size := by omega
    have hf := isPartL_cons s h0
    rw [decide_eq_true (by omega : s.size ≤ 20)] at hf
    have Hf := Lib.hid hf
    clear hf
    cases hl : letter s[0]
    all_goals
      go_wp2_with (first | (go_at_call 55; refine (within_any _ _ _ _).mono ?_; rintro e w' ⟨rfl, rfl⟩) | (go_at_call 285; refine (isLetter_any s[0] _).mono ?_; rintro e w' ⟨rfl, rfl⟩) | (go_at_call 286; refine (runOf_any s _ hs).mono ?_; rintro e w' ⟨rfl, n, rfl⟩))
      go_ret
      first
        | exact ⟨ret_bool (by rw [Hf.out, hl]; rfl), 0, rfl⟩
        | exact ⟨ret_bool (by rw [Hf.out, hl, run_self]; rfl), _, rfl⟩
  · have hin := inR_f h1
    go_wp2_with (first | (go_at_call 55; refine (within_any _ _ _ _).mono ?_; rintro e w' ⟨rfl, rfl⟩))
    go_ret
    refine ⟨ret_bool ?_, 0, rfl⟩
    by_cases h0 : s.size = 0
    · rw [isPartL_nil s h0]
    · rw [isPartL_cons s (by omega), decide_eq_false (by omega)]; rfl

end Go.Proofs.YtiihihgjiklnoaaGreatDoor
/-
  DERIVED: THE SHELF's CONTRACTS AT THIS DUMP, IN PLAIN WORDS (tools/lay-plain.mjs out of 'TryzShelf.lean', which tools/lay-shelf.mjs wrote): THE SAME DECLARATIONS UNDER THE SAME NAMES: 'import', 'namespace', 'open', 'def', 'theorem' AND NOTHING ELSE: no command of the shelf's: FOR A HAND-IN. Each laying: the table of numbers ('.._ren') and one theorem, a field a fact of the dump's own or the kernel's comparison; each contract: ONE APPLICATION.
-/
namespace Go.Proofs
open Go.Shelf
def Tryz.lays99_ren : Go.Shelf.Ren := ⟨fun | 99 => 287 | 206 => 295 | n => n, fun | 9 => 9 | 4 => 4 | 3 => 3 | n => n, fun | n => n⟩
theorem Tryz.lays99 : Go.Proofs.Lays.n99 Tryz.prog Tryz.lays99_ren := {
  mixed := by kernel_rfl
  f99 := Tryz.func287.trans (congrArg some (by kernel_rfl))
  f206 := Tryz.func295.trans (congrArg some (by kernel_rfl))
  t3 := Tryz.underlying3
  a3 := Tryz.isAgg3
  z3 := Tryz.sizeOf3
  v3 := Tryz.zeroValue3
  t4 := Tryz.underlying4
  a4 := Tryz.isAgg4
  z4 := Tryz.sizeOf4
  v4 := Tryz.zeroValue4
  t9 := Tryz.underlying9
  a9 := Tryz.isAgg9
  z9 := Tryz.sizeOf9
  v9 := Tryz.zeroValue9 }
open Go.RowKit Go.Lib in
/-- strings.HasPrefix: "HasPrefix reports whether the string s begins with prefix.": IT RETURNS 'Lib.hasPrefix s prefix'; the world is as it was. (LAID: no walk: one application.) -/
theorem Tryz.strings_HasPrefix (s p : ByteArray) (w : World) :
    Calls Tryz.prog 287 #[.string s, .string p] w fun e w' => e = .returned (.bool (Lib.hasPrefix s.data.toList p.data.toList)) ∧ w' = w := Any.strings_HasPrefix Tryz.lays99 s p w
def Tryz.lays100_ren : Go.Shelf.Ren := ⟨fun | 100 => 269 | 207 => 288 | n => n, fun | 9 => 9 | 4 => 4 | 3 => 3 | n => n, fun | n => n⟩
theorem Tryz.lays100 : Go.Proofs.Lays.n100 Tryz.prog Tryz.lays100_ren := {
  mixed := by kernel_rfl
  f100 := Tryz.func269.trans (congrArg some (by kernel_rfl))
  f207 := Tryz.func288.trans (congrArg some (by kernel_rfl))
  t3 := Tryz.underlying3
  a3 := Tryz.isAgg3
  z3 := Tryz.sizeOf3
  v3 := Tryz.zeroValue3
  t4 := Tryz.underlying4
  a4 := Tryz.isAgg4
  z4 := Tryz.sizeOf4
  v4 := Tryz.zeroValue4
  t9 := Tryz.underlying9
  a9 := Tryz.isAgg9
  z9 := Tryz.sizeOf9
  v9 := Tryz.zeroValue9 }
open Go.RowKit Go.Lib in
/-- strings.HasSuffix: "HasSuffix reports whether the string s ends with suffix.": IT RETURNS 'Lib.hasSuffix s suffix'; the world is as it was. ('hs': no Go string is longer: a caller has it of every string that it was handed.) (LAID: no walk: one application.) -/
theorem Tryz.strings_HasSuffix (s p : ByteArray) (w : World) (hs : s.size ≤ 9223372036854775807) :
    Calls Tryz.prog 269 #[.string s, .string p] w fun e w' => e = .returned (.bool (Lib.hasSuffix s.data.toList p.data.toList)) ∧ w' = w := Any.strings_HasSuffix Tryz.lays100 s p w hs
def Tryz.lays146_ren : Go.Shelf.Ren := ⟨fun | 146 => 270 | 221 => 289 | 268 => 296 | 138 => 297 | 143 => 298 | 195 => 299 | 197 => 300 | 218 => 301 | 219 => 302 | 260 => 303 | 217 => 304 | 225 => 305 | 224 => 306 | 267 => 307 | 266 => 308 | 314 => 309 | n => n, fun | 9 => 9 | 31 => 34 | 3 => 3 | 4 => 4 | 0 => 0 | 105 => 341 | 21 => 21 | 5 => 5 | 46 => 321 | 119 => 344 | 139 => 347 | 138 => 346 | 146 => 334 | 51 => 333 | n => n, fun | 1 => 0 | 3 => 1 | 4 => 2 | n => n⟩
theorem Tryz.lays146 : Go.Proofs.Lays.n146 Tryz.prog Tryz.lays146_ren := {
  mixed := by kernel_rfl
  f138 := Tryz.func297.trans (congrArg some (by kernel_rfl))
  f143 := Tryz.func298.trans (congrArg some (by kernel_rfl))
  f146 := Tryz.func270.trans (congrArg some (by kernel_rfl))
  f195 := Tryz.func299.trans (congrArg some (by kernel_rfl))
  f197 := Tryz.func300.trans (congrArg some (by kernel_rfl))
  f217 := Tryz.func304.trans (congrArg some (by kernel_rfl))
  f218 := Tryz.func301.trans (congrArg some (by kernel_rfl))
  f219 := Tryz.func302.trans (congrArg some (by kernel_rfl))
  f221 := Tryz.func289.trans (congrArg some (by kernel_rfl))
  f224 := Tryz.func306.trans (congrArg some (by kernel_rfl))
  f225 := Tryz.func305.trans (congrArg some (by kernel_rfl))
  f260 := Tryz.func303.trans (congrArg some (by kernel_rfl))
  f266 := Tryz.func308.trans (congrArg some (by kernel_rfl))
  f267 := Tryz.func307.trans (congrArg some (by kernel_rfl))
  f268 := Tryz.func296.trans (congrArg some (by kernel_rfl))
  f314 := Tryz.func309.trans (congrArg some (by kernel_rfl))
  t0 := Tryz.underlying0
  a0 := Tryz.isAgg0
  z0 := Tryz.sizeOf0
  v0 := Tryz.zeroValue0
  t3 := Tryz.underlying3
  a3 := Tryz.isAgg3
  z3 := Tryz.sizeOf3
  v3 := Tryz.zeroValue3
  t4 := Tryz.underlying4
  a4 := Tryz.isAgg4
  z4 := Tryz.sizeOf4
  v4 := Tryz.zeroValue4
  t5 := Tryz.underlying5
  a5 := Tryz.isAgg5
  z5 := Tryz.sizeOf5
  v5 := Tryz.zeroValue5
  t9 := Tryz.underlying9
  a9 := Tryz.isAgg9
  z9 := Tryz.sizeOf9
  v9 := Tryz.zeroValue9
  t21 := Tryz.underlying21
  a21 := Tryz.isAgg21
  z21 := Tryz.sizeOf21
  v21 := Tryz.zeroValue21
  t31 := Tryz.underlying34
  a31 := Tryz.isAgg34
  z31 := Tryz.sizeOf34
  v31 := Tryz.zeroValue34
  t46 := Tryz.underlying321
  a46 := Tryz.isAgg321
  z46 := Tryz.sizeOf321
  v46 := Tryz.zeroValue321
  t51 := Tryz.underlying333
  a51 := Tryz.isAgg333
  z51 := Tryz.sizeOf333
  v51 := Tryz.zeroValue333
  t105 := Tryz.underlying341
  a105 := Tryz.isAgg341
  z105 := Tryz.sizeOf341
  v105 := Tryz.zeroValue341
  t119 := Tryz.underlying344
  a119 := Tryz.isAgg344
  z119 := Tryz.sizeOf344
  t138 := Tryz.underlying346
  a138 := Tryz.isAgg346
  z138 := Tryz.sizeOf346
  v138 := Tryz.zeroValue346
  t139 := Tryz.underlying347
  a139 := Tryz.isAgg347
  z139 := Tryz.sizeOf347
  v139 := Tryz.zeroValue347
  t146 := Tryz.underlying334
  a146 := Tryz.isAgg334
  z146 := Tryz.sizeOf334
  v146 := Tryz.zeroValue334
  g1 := by kernel_rfl
  g3 := by kernel_rfl
  g4 := by kernel_rfl }
open Go.RowKit Go.Lib in
/-- strings.Split. (LAID: no walk: one application.) -/
theorem Tryz.strings_Split (s sep : ByteArray) (m : Int) (w : World) (hs : s.size < 4294967281) (hm : w.cell? ⟨0, 0, none⟩ = some (.int .i64 m)) (h1 : 1 ≤ sep.size) :
    Calls Tryz.prog 270 #[.string s, .string sep] w fun e w' =>
      e = .returned (.slice (some ⟨w.heap.size, 0, none⟩) (Lib.countB s sep + 1) (Lib.countB s sep + 1)) ∧ w' = w.alloc (.cells ((Lib.splitB sep 0 (Lib.countB s sep) s).map Value.string).toArray 9) := Any.strings_Split Tryz.lays146 (by kernel_rfl) s sep m w hs hm h1
def Tryz.lays212_ren : Go.Shelf.Ren := ⟨fun | 212 => 271 | 263 => 290 | 264 => 291 | n => n, fun | 46 => 321 | 51 => 333 | 146 => 334 | 53 => 336 | 148 => 337 | n => n, fun | n => n⟩
theorem Tryz.lays212 : Go.Proofs.Lays.n212 Tryz.prog Tryz.lays212_ren := {
  mixed := by kernel_rfl
  f212 := Tryz.func271.trans (congrArg some (by kernel_rfl))
  f263 := Tryz.func290.trans (congrArg some (by kernel_rfl))
  f264 := Tryz.func291.trans (congrArg some (by kernel_rfl))
  t46 := Tryz.underlying321
  a46 := Tryz.isAgg321
  z46 := Tryz.sizeOf321
  v46 := Tryz.zeroValue321
  t51 := Tryz.underlying333
  a51 := Tryz.isAgg333
  z51 := Tryz.sizeOf333
  v51 := Tryz.zeroValue333
  t53 := Tryz.underlying336
  a53 := Tryz.isAgg336
  z53 := Tryz.sizeOf336
  v53 := Tryz.zeroValue336
  t146 := Tryz.underlying334
  a146 := Tryz.isAgg334
  z146 := Tryz.sizeOf334
  v146 := Tryz.zeroValue334
  t148 := Tryz.underlying337
  a148 := Tryz.isAgg337
  z148 := Tryz.sizeOf337
  v148 := Tryz.zeroValue337 }
open Go.RowKit Go.Lib in
/-- math/bits.Mul: "Mul returns the full-width product of x and y": on a machine of 64 bits: Mul64's. (LAID: no walk: one application.) -/
theorem Tryz.bits_Mul (x y : Nat) (hx : x < 18446744073709551616) (hy : y < 18446744073709551616) (w : World) :
    Calls Tryz.prog 271 #[.int .u64 x, .int .u64 y] w fun e w' => e = .returned (.tuple #[.int .u64 ((x * y / 18446744073709551616 : Nat) : Int), .int .u64 ((x * y % 18446744073709551616 : Nat) : Int)]) ∧ w' = w := Any.bits_Mul Tryz.lays212 x y hx hy w
end Go.Proofs
/- Numbers as texts: the program's FormatInt and the reference's. -/
namespace Go.Proofs.YtiihihgjiklnoaaGreatDoor
open Go Go.RowKit

/-- The library's table of powers of ten is laid. -/
def TabL (w : World) : Prop := Lib.TabIs Tryz.prog w "internal/strconv.uint64pow10" .u64 Lib.pow10Tab
theorem TabL.below {w w' : World} (h : TabL w) (hb : Below w.heap.size w w') : TabL w' := Lib.tabBelow_of_tabIs h w' hb

/-- A number's text. -/
def numB (n : Int) : ByteArray := ⟨(Lib.itoa n).toArray⟩

theorem nDigits_le : ∀ (k u : Nat), u < 10 ^ (k + 1) → Lib.nDigits u ≤ k + 1
  | 0, u, h => by rw [Lib.nDigits_small (by simpa using h)]; omega
  | k + 1, u, h => by
    by_cases h1 : u < 10
    · rw [Lib.nDigits_small h1]; omega
    · rw [Lib.nDigits_big h1]
      have := nDigits_le k (u / 10) (by rw [Nat.pow_succ] at h; omega)
      omega
/-- The digits of a number, none where it is 0. -/
def pre (u : Nat) : List UInt8 := if u = 0 then [] else Lib.decDigits u
theorem pre_step {u : Nat} (h : u ≠ 0) : pre u = pre (u / 10) ++ [UInt8.ofNat (48 + u % 10)] := by
  unfold pre
  rw [if_neg h, Lib.decDigits]
  by_cases h1 : u < 10
  · rw [dif_pos h1, if_pos (by omega), Nat.mod_eq_of_lt h1]; rfl
  · rw [dif_neg h1, if_neg (by omega)]
theorem pre_length {u : Nat} (h : u < 10000000000000000000) : (pre u).length ≤ 19 := by
  unfold pre
  split
  · simp
  · rw [Lib.decDigits_length]; exact nDigits_le 18 u (by simpa using h)

theorem numB_pre {n : Int} (hz : n ≠ 0) : numB n = if n < 0 then ⟨(45 :: pre n.natAbs).toArray⟩ else ⟨(pre n.natAbs).toArray⟩ := by
  have h1 : pre n.natAbs = Lib.decDigits n.natAbs := by unfold pre; rw [if_neg (by omega)]
  rw [h1]
  unfold numB Lib.itoa
  by_cases h : n < 0
  · rw [if_pos h, if_pos h]
  · rw [if_neg h, if_neg h, show n.toNat = n.natAbs by omega]
/-- 'string([]byte{b})' of a byte that is reckoned. -/
theorem conv_one (src : TypeId) (e : TypeId) (w : World) (d : Nat) (hd : d < 256) (v : Int) (hv : v = d) (hs : Tryz.prog.underlying src = some (.slice e)) (he : Tryz.prog.underlying e = some (.int .u8)) :
    (convert src 9 (.slice (some ⟨w.heap.size, 0, none⟩) 1 1)).run Tryz.prog (w.alloc (.cells #[.int .u8 v] e)) = .ok (.string ⟨#[UInt8.ofNat d]⟩) (w.alloc (.cells #[.int .u8 v] e)) := by
  subst hv
  refine run_convert_bytes_back (P := Tryz.prog) _ src 9 e ⟨w.heap.size, 0, none⟩ 1 [UInt8.ofNat d] hs he Tryz.underlying9 fun j hj => ?_
  have hj0 : j = 0 := by simp at hj; omega
  subst hj0
  have h := Blk.cell (Blk.new w e #[.int .u8 (d : Int)]) 0
  rw [show (⟨w.heap.size, 0, none⟩ : Addr).add 0 = ⟨w.heap.size, 0, none⟩ from rfl, h]
  show some (Value.int .u8 (d : Int)) = some (.int .u8 ((UInt8.ofNat d).toNat : Int))
  rw [UInt8.toNat_ofNat', Nat.mod_eq_of_lt hd]
end Go.Proofs.YtiihihgjiklnoaaGreatDoor
/- Names, operators and selectors as plain functions on lists of bytes, and the laws between them. No program here. -/
namespace Go.Proofs.YtiihihgjiklnoaaGreatDoor
open Go Go.RowKit

def words : List (List UInt8) := [[99, 108, 97, 115, 115], [101, 120, 116, 101, 110, 100, 115], [102, 105, 101, 108, 100, 115], [109, 101, 116, 104, 111, 100], [99, 108, 97, 115, 115, 109, 101, 116, 104, 111, 100], [101, 110, 100], [109, 97, 105, 110]]
def ops : List (List UInt8) := [[47, 47], [92, 92], [60, 61], [62, 61], [61, 61], [126, 61], [126, 126], [43], [45], [42], [60], [62], [61], [44], [38]]
def isWordL (l : List UInt8) : Bool := words.contains l
def isOpL (l : List UInt8) : Bool := ops.contains l
def isNameL (l : List UInt8) : Bool := isPartL l && !isWordL l

/-- A text cut at a byte. -/
def spl (c : UInt8) : List UInt8 → List (List UInt8)
  | [] => [[]]
  | b :: r => if b = c then [] :: spl c r else (b :: (spl c r).headD []) :: (spl c r).tail

/-- The parts of a keyword selector without their colons. -/
def kwL (l : List UInt8) : Option (List (List UInt8)) :=
  if l.getLast? = some 58 then (if (spl 58 l.dropLast).all isPartL && decide ((spl 58 l.dropLast).length ≤ 4) then some (spl 58 l.dropLast) else none) else none
def isSelL (l : List UInt8) : Bool := isOpL l || isNameL l || (kwL l).isSome
def nArgsL (l : List UInt8) : Int := if isOpL l then 1 else if isNameL l then 0 else match kwL l with | some ps => ps.length | none => -1

theorem spl_ne (c : UInt8) (l : List UInt8) : spl c l ≠ [] := by
  cases l with
  | nil => simp [spl]
  | cons b r => simp only [spl]; split <;> simp

theorem spl_pos (c : UInt8) (l : List UInt8) : 0 < (spl c l).length := List.length_pos_iff.2 (spl_ne c l)

theorem spl_snoc (c : UInt8) : ∀ l : List UInt8, spl c (l ++ [c]) = spl c l ++ [[]]
  | [] => by simp [spl]
  | b :: r => by
    have h := spl_snoc c r
    simp only [List.cons_append, spl]
    split
    · rw [h]; rfl
    · rw [h]
      obtain ⟨x, xs, hx⟩ := List.exists_cons_of_ne_nil (spl_ne c r)
      rw [hx]; rfl

theorem spl_last (c : UInt8) : ∀ l : List UInt8, (spl c l).getLast? = some [] → l = [] ∨ l.getLast? = some c
  | [], _ => .inl rfl
  | b :: r, h => by
    simp only [spl] at h
    refine .inr ?_
    obtain ⟨x, xs, hx⟩ := List.exists_cons_of_ne_nil (spl_ne c r)
    split at h
    · rename_i hb
      subst hb
      rw [hx, List.getLast?_cons_cons, ← hx] at h
      rcases spl_last b r h with h1 | h1
      · subst h1; rfl
      · cases r with
        | nil => simp at h1
        | cons a t => rw [List.getLast?_cons_cons]; exact h1
    · rw [hx] at h
      cases xs with
      | nil => simp at h
      | cons y ys =>
        simp only [List.headD_cons, List.tail_cons, List.getLast?_cons_cons] at h
        have h2 : (spl c r).getLast? = some [] := by rw [hx, List.getLast?_cons_cons]; exact h
        rcases spl_last c r h2 with h1 | h1
        · subst h1; simp [spl] at hx
        · cases r with
          | nil => simp at h1
          | cons a t => rw [List.getLast?_cons_cons]; exact h1

theorem spl_no (c : UInt8) : ∀ l : List UInt8, c ∉ l → spl c l = [l]
  | [], _ => rfl
  | b :: r, h => by
    simp only [List.mem_cons, not_or] at h
    rw [spl, if_neg (fun e => h.1 e.symm), spl_no c r h.2]; rfl

theorem spl_one (c : UInt8) : ∀ l : List UInt8, (spl c l).length = 1 → spl c l = [l]
  | [], _ => rfl
  | b :: r, h => by
    have hp := spl_pos c r
    simp only [spl] at h ⊢
    split
    · rename_i hb; rw [if_pos hb] at h; simp only [List.length_cons] at h; omega
    · rename_i hb
      rw [if_neg hb] at h
      simp only [List.length_cons, List.length_tail] at h
      rw [spl_one c r (by omega)]; rfl

theorem spl_size (c : UInt8) : ∀ (l p : List UInt8), p ∈ spl c l → p.length ≤ l.length
  | [], p, h => by simp [spl] at h; subst h; simp
  | b :: r, p, h => by
    simp only [spl] at h
    obtain ⟨x, xs, hx⟩ := List.exists_cons_of_ne_nil (spl_ne c r)
    split at h
    · rcases List.mem_cons.1 h with rfl | h
      · simp
      · have := spl_size c r p h; simp only [List.length_cons]; omega
    · rw [hx] at h
      simp only [List.headD_cons, List.tail_cons] at h
      rcases List.mem_cons.1 h with rfl | h
      · have := spl_size c r x (by rw [hx]; simp); simp only [List.length_cons]; omega
      · have := spl_size c r p (by rw [hx]; simp [h]); simp only [List.length_cons]; omega

theorem spl_length (c : UInt8) : ∀ l : List UInt8, (spl c l).length ≤ l.length + 1
  | [] => by simp [spl]
  | b :: r => by
    have := spl_length c r
    have hp := spl_pos c r
    simp only [spl]
    split
    · simp only [List.length_cons]; omega
    · simp only [List.length_cons, List.length_tail]; omega

/-- A first part put ahead of a cut text. -/
def glue (pre : List UInt8) (ps : List (List UInt8)) : List (List UInt8) := (pre ++ ps.headD []) :: ps.tail
theorem glue_nil (c : UInt8) (l : List UInt8) : glue [] (spl c l) = spl c l := by
  obtain ⟨x, xs, hx⟩ := List.exists_cons_of_ne_nil (spl_ne c l)
  rw [hx]; rfl
theorem glue_hit (c : UInt8) (pre r : List UInt8) : glue pre (spl c (c :: r)) = pre :: spl c r := by simp [spl, glue]
theorem glue_miss (b c : UInt8) (pre r : List UInt8) (h : b ≠ c) : glue pre (spl c (b :: r)) = glue (pre ++ [b]) (spl c r) := by simp [spl, glue, h]

/-- The library's cut at one byte. -/
theorem index_cons_eq (c : UInt8) (r : List UInt8) : Lib.index (c :: r) [c] = 0 := by
  simp [Lib.index]
theorem index_cons_ne (b c : UInt8) (r : List UInt8) (h : b ≠ c) : Lib.index (b :: r) [c] = if Lib.index r [c] = -1 then -1 else Lib.index r [c] + 1 := by
  simp [Lib.index, Ne.symm h]
theorem split_spl (c : UInt8) : ∀ (l : List UInt8), Lib.splitK [c] 0 (l.count c) l = spl c l
  | [] => rfl
  | b :: r => by
    have ih := split_spl c r
    by_cases hb : b = c
    · subst hb
      rw [List.count_cons_self, Lib.splitK, index_cons_eq, if_neg (by decide)]
      simp only [spl, if_true]
      simpa using ih
    · rw [List.count_cons_of_ne hb, spl, if_neg hb, ← ih]
      generalize hk : r.count c = k
      cases k with
      | zero => rfl
      | succ k =>
        have hge := Lib.index_ge r [c]
        have hin : Lib.index r [c] ≠ -1 := by
          intro h0
          have := Lib.count_one c r
          rw [Lib.count_miss h0, hk] at this
          omega
        rw [Lib.splitK, Lib.splitK, index_cons_ne b c r hb, if_neg hin]
        have e1 : (Lib.index r [c] + 1 == -1) = false := by rw [beq_eq_false_iff_ne]; omega
        have e2 : (Lib.index r [c] == -1) = false := by rw [beq_eq_false_iff_ne]; exact hin
        rw [e1, e2]
        obtain ⟨i, hi⟩ := Int.eq_ofNat_of_zero_le (show 0 ≤ Lib.index r [c] by omega)
        rw [hi]
        have e3 : ((i : Int) + 1).toNat = i + 1 := by omega
        simp [e3]

/-- How the reference reads a selector. -/
def specSel (l : List UInt8) : Bool :=
  if isOpL l then true else
  if 1 < (spl 58 l).length then (if (spl 58 l).getLast? = some [] then (spl 58 l).dropLast.all isPartL && decide ((spl 58 l).length - 1 ≤ 4) else false)
  else isPartL l && !isWordL l

theorem lod_colon : lod 58 = false := by decide
theorem part_no_colon (l : List UInt8) (h : isPartL l = true) : (58 : UInt8) ∉ l := by
  intro hm
  cases l with
  | nil => simp at hm
  | cons b r =>
    simp only [isPartL, Bool.and_eq_true, List.all_eq_true] at h
    rcases List.mem_cons.1 hm with e | e
    · subst e
      have : letter 58 = true := h.1.2
      exact absurd this (by decide)
    · have := h.2 58 e
      rw [lod_colon] at this
      cases this

theorem specSel_eq (l : List UInt8) : specSel l = isSelL l := by
  unfold specSel isSelL
  by_cases ho : isOpL l = true
  · rw [if_pos ho, ho]; rfl
  · rw [if_neg ho, Bool.eq_false_iff.2 ho, Bool.false_or]
    by_cases hn : 1 < (spl 58 l).length
    · rw [if_pos hn]
      have hno : isNameL l = false := by
        rw [Bool.eq_false_iff]
        intro h
        simp only [isNameL, Bool.and_eq_true] at h
        have := spl_no 58 l (part_no_colon l h.1)
        rw [this] at hn
        simp at hn
      rw [hno, Bool.false_or]
      by_cases hl : l.getLast? = some 58
      · obtain ⟨m, rfl⟩ := List.getLast?_eq_some_iff.1 hl
        simp only [spl_snoc, List.getLast?_append, List.getLast?_singleton, Option.some_or, if_true, List.dropLast_concat, List.length_append, List.length_singleton, Nat.add_sub_cancel]
        simp only [kwL, List.getLast?_append, List.getLast?_singleton, Option.some_or, if_true, List.dropLast_concat]
        split
        · rename_i h; rw [h]; rfl
        · rename_i h; rw [Bool.eq_false_iff.2 h]; rfl
      · have h2 : ¬ (spl 58 l).getLast? = some [] := by
          intro h
          rcases spl_last 58 l h with h1 | h1
          · subst h1; simp [spl] at hn
          · exact hl h1
        rw [if_neg h2]
        simp [kwL, hl]
    · rw [if_neg hn]
      have hone := spl_one 58 l (by have := spl_pos 58 l; omega)
      have hk : kwL l = none := by
        unfold kwL
        by_cases hl : l.getLast? = some 58
        · obtain ⟨m, rfl⟩ := List.getLast?_eq_some_iff.1 hl
          rw [spl_snoc] at hn
          have := spl_pos 58 m
          simp at hn
          exact absurd hn (spl_ne 58 m)
        · rw [if_neg hl]
      rw [hk]
      simp [isNameL]

/-- How the reference counts the arguments. -/
def specArgs (l : List UInt8) : Int := if specSel l then (if isOpL l then 1 else ((spl 58 l).length : Int) - 1) else -1
theorem specArgs_eq (l : List UInt8) : specArgs l = nArgsL l := by
  unfold specArgs nArgsL
  rw [specSel_eq]
  by_cases ho : isOpL l = true
  · simp [isSelL, ho]
  · rw [Bool.eq_false_iff.2 ho]
    by_cases hn : isNameL l = true
    · have := spl_no 58 l (part_no_colon l (by simp only [isNameL, Bool.and_eq_true] at hn; exact hn.1))
      simp [isSelL, hn, this]
    · rw [Bool.eq_false_iff.2 hn]
      cases hk : kwL l with
      | none => simp [isSelL, Bool.eq_false_iff.2 ho, Bool.eq_false_iff.2 hn, hk]
      | some ps =>
        simp only [isSelL, Bool.eq_false_iff.2 ho, Bool.eq_false_iff.2 hn, hk, Option.isSome_some, Bool.or_true, if_true, Bool.false_eq_true, if_false]
        unfold kwL at hk
        by_cases hl : l.getLast? = some 58
        · obtain ⟨m, rfl⟩ := List.getLast?_eq_some_iff.1 hl
          rw [if_pos hl, List.dropLast_concat] at hk
          split at hk
          · simp only [Option.some.injEq] at hk
            subst hk
            rw [spl_snoc]; simp
          · cases hk
        · rw [if_neg hl] at hk; cases hk
end Go.Proofs.YtiihihgjiklnoaaGreatDoor
