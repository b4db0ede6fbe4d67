/- What a value is: the program's IsValue and the reference's. -/
import Derived.Test.YtagmokkjkmiblaaDoorSz
import Derived.Test.YtagmokkjkmiblaaDoorSel3
namespace Go.Proofs.YtagmokkjkmiblaaDoor
open Go Go.RowKit

/-- A byte that may stand in a line. -/
def txt (b : UInt8) : Bool := inR (b.toNat : Int) 32 126
/-- A text that may be a value. -/
def isLineL (l : List UInt8) : Bool := l.all txt && decide (l.length ≤ 200)

theorem all_drop (s : ByteArray) {k : Nat} (h : k < s.size) : (s.data.toList.drop k).all txt = (txt s[k] && (s.data.toList.drop (k + 1)).all txt) := by
  rw [drop_byte s h, List.all_cons]
theorem all_end (s : ByteArray) {k : Nat} (h : ¬ k < s.size) : (s.data.toList.drop k).all txt = true := by
  rw [List.drop_eq_nil_of_le (by rw [size_toList]; omega)]; rfl

set_option maxHeartbeats 400000 in
theorem lineOk_any (s : ByteArray) (w : World) (hs : s.size ≤ 1048576) : Calls Tryd.prog 100 #[.string s] w fun e w' => e = .returned (.bool (isLineL s.data.toList)) ∧ ∃ n, w' = w.drewN n := by
  go_enter Tryd.func100, Tryd.ntmps100
  go_wp2
  go_loopw [3] (fun i wr => ∃ k n : Nat, k ≤ s.size ∧ i = .int .i64 k ∧ wr = w.drewN n ∧ s.data.toList.all txt = (s.data.toList.drop k).all txt) (fun i _ => s.size - (intOf i).toNat)
  case atStart => exact ⟨0, 0, Nat.zero_le _, rfl, rfl, rfl⟩
  case round =>
    obtain ⟨k, n, hk, rfl, rfl, hr⟩ := hrel
    have Hr := Lib.hid hr
    clear hr
    by_cases hlt : k < s.size
    · have Hd := Lib.hid (all_drop s hlt)
      have hb0 : (0 : Int) ≤ (s[k].toNat : Int) := by omega
      have hb1 : (s[k].toNat : Int) ≤ 255 := by have := s[k].toNat_lt; omega
      cases hl : inR (s[k].toNat : Int) 32 126
      all_goals
        go_wp2_with (go_at_call 29; refine (within_any _ _ _ _).mono ?_; rintro e w' ⟨rfl, rfl⟩)
        first
          | (
              go_roundw
              case rel => exact ⟨k + 1, n, by omega, by go_num, rfl, by rw [Hr.out, Hd.out, txt, hl]; rfl⟩
              case measure => simp [intOf]; omega)
          | (
              go_ret
              exact ⟨ret_bool (by rw [isLineL, Hr.out, Hd.out, txt, hl]; rfl), n, rfl⟩)
    · have hl := size_toList s
      have Hl := Lib.hid hl
      clear hl
      by_cases h2 : s.size ≤ 200
      all_goals
        go_wp2
        go_ret
        exact ⟨ret_bool (by rw [isLineL, Hr.out, all_end s hlt, Hl.out]; simp <;> omega), n, rfl⟩

/-- Is it a value? -/
def TValue.isL (x : TValue) : Bool :=
  if x.kind = 0 then decide (x.number = 0) && x.text.toList.isEmpty
  else if x.kind = 1 then inR x.number 0 1 && x.text.toList.isEmpty
  else if x.kind = 2 then inR x.number (-999999999) 999999999 && x.text.toList.isEmpty
  else if x.kind = 3 then decide (x.number = 0) && isLineL x.text.data.toList
  else if x.kind = 4 then decide (x.number = 0) && isSelL x.text.data.toList
  else if x.kind = 5 ∨ x.kind = 6 ∨ x.kind = 7 then decide (0 ≤ x.number) && x.text.toList.isEmpty
  else false

theorem kind_ways (k : Int) : k = 0 ∨ k = 1 ∨ k = 2 ∨ k = 3 ∨ k = 4 ∨ k = 5 ∨ k = 6 ∨ k = 7 ∨ (¬ k = 0 ∧ ¬ k = 1 ∧ ¬ k = 2 ∧ ¬ k = 3 ∧ ¬ k = 4 ∧ ¬ k = 5 ∧ ¬ k = 6 ∧ ¬ k = 7) := by omega

set_option maxHeartbeats 1000000 in
theorem isValue_any (x : TValue) (w : World) (hs : x.text.size ≤ 1048576) (hm : MaxL w) : Calls Tryd.prog 80 #[.agg #[.int .i64 x.kind, .int .i64 x.number, .string x.text]] w fun e w' => e = .returned (.bool x.isL) ∧ Below w.heap.size w w' := by
  have hA : ∀ o, Below w.heap.size w (w.alloc o) := fun o => (Below.refl _ _).alloc (Nat.le_refl _) o
  have hM : ∀ o, MaxL (w.alloc o) := fun o => hm.below (hA o)
  have hz : ∀ o, w.heap.size ≤ (w.alloc o).heap.size := fun o => (hA o).size
  have HI := Lib.hid (rfl : x.isL = x.isL)
  conv at HI => arg 1; rhs; unfold TValue.isL
  rcases kind_ways x.kind with h | h | h | h | h | h | h | h | ⟨h0, h1, h2, h3, h4, h5, h6, h7⟩
  · skip
    all_goals cases he : x.text.toList.isEmpty
    all_goals by_cases hn : x.number = 0
    all_goals
      go_enter Tryd.func80, Tryd.ntmps80
      go_wp2
      go_ret
      exact ⟨ret_bool (by rw [HI.out]; simp [*]), hA _⟩
  · skip
    all_goals cases he : x.text.toList.isEmpty
    all_goals cases hr : inR x.number 0 1
    all_goals
      go_enter Tryd.func80, Tryd.ntmps80
      go_wp2_with (first | (go_at_call 29; refine (within_any _ _ _ _).mono ?_; rintro e w' ⟨rfl, rfl⟩))
      go_ret
      exact ⟨ret_bool (by rw [HI.out]; simp [*]), hA _⟩
  · skip
    all_goals cases he : x.text.toList.isEmpty
    all_goals cases hr : inR x.number (-999999999) 999999999
    all_goals
      go_enter Tryd.func80, Tryd.ntmps80
      go_wp2_with (first | (go_at_call 29; refine (within_any _ _ _ _).mono ?_; rintro e w' ⟨rfl, rfl⟩))
      go_ret
      exact ⟨ret_bool (by rw [HI.out]; simp [*]), hA _⟩
  · skip
    all_goals by_cases hn : x.number = 0
    all_goals
      go_enter Tryd.func80, Tryd.ntmps80
      go_wp2_with (first | (go_at_call 100; refine (lineOk_any _ _ hs).mono ?_; rintro e w' ⟨rfl, n, rfl⟩))
      go_ret
      exact ⟨ret_bool (by rw [HI.out]; simp [*]), by first | exact hA _ | exact below_drewN (hA _) _⟩
  · skip
    all_goals by_cases hn : x.number = 0
    all_goals
      go_enter Tryd.func80, Tryd.ntmps80
      go_wp2_with (first | (go_at_call 101; refine (isSelector_any _ _ hs (hM _)).mono ?_; rintro e w' ⟨rfl, hb⟩))
      go_ret
      first | exact ⟨ret_bool (by rw [HI.out]; simp [*]), hA _⟩ | exact ⟨ret_bool (by rw [HI.out]; simp [*]), (hA _).trans (hb.mono (hz _))⟩
  · skip
    all_goals cases he : x.text.toList.isEmpty
    all_goals by_cases hn : 0 ≤ x.number
    all_goals
      go_enter Tryd.func80, Tryd.ntmps80
      go_wp2
      go_ret
      exact ⟨ret_bool (by rw [HI.out]; simp [*]), hA _⟩
  · skip
    all_goals cases he : x.text.toList.isEmpty
    all_goals by_cases hn : 0 ≤ x.number
    all_goals
      go_enter Tryd.func80, Tryd.ntmps80
      go_wp2
      go_ret
      exact ⟨ret_bool (by rw [HI.out]; simp [*]), hA _⟩
  · skip
    all_goals cases he : x.text.toList.isEmpty
    all_goals by_cases hn : 0 ≤ x.number
    all_goals
      go_enter Tryd.func80, Tryd.ntmps80
      go_wp2
      go_ret
      exact ⟨ret_bool (by rw [HI.out]; simp [*]), hA _⟩
  · skip
    all_goals
      go_enter Tryd.func80, Tryd.ntmps80
      go_wp2
      go_ret
      exact ⟨ret_bool (by rw [HI.out]; simp [*]), hA _⟩
set_option maxHeartbeats 1000000 in
theorem specIsValue_text (s : ByteArray) (w : World) (hl : s.size ≤ 200) : Calls Tryd.prog 76 #[.agg #[.int .i64 3, .int .i64 0, .string s]] w fun e w' => e = .returned (.bool (isLineL s.data.toList)) ∧ Below w.heap.size w w' := by
  go_enter Tryd.func76, Tryd.ntmps76
  go_wp2
  have hBx := Blk.new w 45 #[.int .i64 3, .int .i64 0, .string s]
  have hc2 := hBx.cell 2
  have hbel : Below w.heap.size w (w.alloc (.cells #[.int .i64 3, .int .i64 0, .string s] 45)) := (Below.refl _ _).alloc (Nat.le_refl _) _
  rw [show (#[Value.int .i64 3, .int .i64 0, .string s] : Array Value)[2]? = some (.string s) from rfl] at hc2
  clear hBx
  generalize (w.alloc (.cells #[.int .i64 3, .int .i64 0, .string s] 45)) = w1 at hbel hc2 ⊢
  go_loopw [3] (fun i wr => ∃ k : Nat, k ≤ s.size ∧ i = .int .i64 k ∧ wr = w1 ∧ s.data.toList.all txt = (s.data.toList.drop k).all txt) (fun i _ => s.size - (intOf i).toNat)
  case atStart => exact ⟨0, Nat.zero_le _, rfl, rfl, rfl⟩
  case round =>
    obtain ⟨k, hk, rfl, rfl, hr⟩ := hrel
    have Hr := Lib.hid hr
    clear hr
    by_cases hlt : k < s.size
    · have Hd := Lib.hid (all_drop s hlt)
      by_cases h32 : s[k].toNat < 32
      all_goals by_cases h126 : 126 < s[k].toNat
      all_goals first | (exfalso; omega) | skip
      all_goals
        go_wp2
        first
          | (
              go_roundw
              case rel => exact ⟨k + 1, by omega, by go_num, trivial, by rw [Hr.out, Hd.out, txt, inR_t (by omega)]; rfl⟩
              case measure => simp [intOf]; omega)
          | (
              go_ret
              exact ⟨ret_bool (by rw [isLineL, Hr.out, Hd.out, txt, inR_f (by omega)]; rfl), hbel⟩)
    · go_wp2
      go_ret
      exact ⟨ret_bool (by rw [isLineL, Hr.out, all_end _ hlt, size_toList]; simp [hl]), hbel⟩

set_option maxHeartbeats 1000000 in
theorem specIsValue_any (x : TValue) (w : World) (hs : x.text.size ≤ 1048576) (hm : MaxL w) : Calls Tryd.prog 76 #[.agg #[.int .i64 x.kind, .int .i64 x.number, .string x.text]] w fun e w' => e = .returned (.bool x.isL) ∧ Below w.heap.size w w' := by
  have hA : ∀ o, Below w.heap.size w (w.alloc o) := fun o => (Below.refl _ _).alloc (Nat.le_refl _) o
  have hM : ∀ o, MaxL (w.alloc o) := fun o => hm.below (hA o)
  have hz : ∀ o, w.heap.size ≤ (w.alloc o).heap.size := fun o => (hA o).size
  have HI := Lib.hid (rfl : x.isL = x.isL)
  conv at HI => arg 1; rhs; unfold TValue.isL
  rcases kind_ways x.kind with h | h | h | h | h | h | h | h | ⟨h0, h1, h2, h3, h4, h5, h6, h7⟩
  · skip
    all_goals cases he : x.text.toList.isEmpty
    all_goals by_cases hn : x.number = 0
    all_goals
      go_enter Tryd.func76, Tryd.ntmps76
      go_wp2
      go_ret
      exact ⟨ret_bool (by rw [HI.out]; simp [*]), hA _⟩
  · skip
    all_goals cases he : x.text.toList.isEmpty
    all_goals cases hr : inR x.number 0 1
    all_goals
      go_enter Tryd.func76, Tryd.ntmps76
      go_wp2_with (first | (go_at_call 25; refine (l1In_any _ _ _ _).mono ?_; rintro e w' ⟨rfl, rfl⟩))
      go_ret
      exact ⟨ret_bool (by rw [HI.out]; simp [*]), hA _⟩
  · skip
    all_goals cases he : x.text.toList.isEmpty
    all_goals cases hr : inR x.number (-999999999) 999999999
    all_goals
      go_enter Tryd.func76, Tryd.ntmps76
      go_wp2_with (first | (go_at_call 25; refine (l1In_any _ _ _ _).mono ?_; rintro e w' ⟨rfl, rfl⟩))
      go_ret
      exact ⟨ret_bool (by rw [HI.out]; simp [*]), hA _⟩
  · skip
    by_cases hn : x.number = 0
    all_goals by_cases hl : x.text.size ≤ 200
    · rw [h, hn]
      refine (specIsValue_text x.text w hl).mono ?_
      rintro e w' ⟨rfl, hb⟩
      exact ⟨ret_bool (by rw [HI.out]; simp [h, hn]), hb⟩
    all_goals
      go_enter Tryd.func76, Tryd.ntmps76
      go_wp2
      go_ret
      exact ⟨ret_bool (by rw [HI.out]; simp [h, hn, hl, isLineL]), hA _⟩
  · skip
    all_goals by_cases hn : x.number = 0
    all_goals
      go_enter Tryd.func76, Tryd.ntmps76
      go_wp2_with (first | (go_at_call 26; refine (specIsSelector_any _ _ hs).mono ?_; rintro e w' ⟨rfl, hb⟩))
      go_ret
      first | exact ⟨ret_bool (by rw [HI.out]; simp [*]), hA _⟩ | exact ⟨ret_bool (by rw [HI.out]; simp [*]), (hA _).trans (hb.mono (hz _))⟩
  · skip
    all_goals cases he : x.text.toList.isEmpty
    all_goals by_cases hn : 0 ≤ x.number
    all_goals
      go_enter Tryd.func76, Tryd.ntmps76
      go_wp2
      go_ret
      exact ⟨ret_bool (by rw [HI.out]; simp [*]), hA _⟩
  · skip
    all_goals cases he : x.text.toList.isEmpty
    all_goals by_cases hn : 0 ≤ x.number
    all_goals
      go_enter Tryd.func76, Tryd.ntmps76
      go_wp2
      go_ret
      exact ⟨ret_bool (by rw [HI.out]; simp [*]), hA _⟩
  · skip
    all_goals cases he : x.text.toList.isEmpty
    all_goals by_cases hn : 0 ≤ x.number
    all_goals
      go_enter Tryd.func76, Tryd.ntmps76
      go_wp2
      go_ret
      exact ⟨ret_bool (by rw [HI.out]; simp [*]), hA _⟩
  · skip
    all_goals
      go_enter Tryd.func76, Tryd.ntmps76
      go_wp2
      go_ret
      exact ⟨ret_bool (by rw [HI.out]; simp [*]), hA _⟩

end Go.Proofs.YtagmokkjkmiblaaDoor
