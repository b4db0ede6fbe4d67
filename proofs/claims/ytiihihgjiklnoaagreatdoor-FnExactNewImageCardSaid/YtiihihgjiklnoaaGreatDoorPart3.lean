/- Part 3 of the proof: the texts Sel, Ty. -/
import Derived.Test.YtiihihgjiklnoaaGreatDoorPart2
import Derived.Deep.RegionLaw
import Derived.Test.YtiihihgjiklnoaaGreatDoorPart1
import Derived.ProofKit
import Derived.Deep.Slices
/- The contracts of the functions on names and selectors, the program's and the reference's. -/
namespace Go.Proofs.YtiihihgjiklnoaaGreatDoor
open Go Go.RowKit

/-- The library's variable MaxLen holds a number. -/
def MaxL (w : World) : Prop := ∃ m : Int, w.cell? ⟨0, 0, none⟩ = some (.int .i64 m)
theorem MaxL.below {w w' : World} (h : MaxL w) (hb : Below w.heap.size w w') : MaxL w' := by
  obtain ⟨m, hm⟩ := h
  exact ⟨m, (hb.cell (World.block_lt_of_cell? w _ hm)).trans hm⟩

theorem Tryz.infoStr : (Tryz.prog.info? 9).map (fun i => (i.zero, i.size, i.bytes)) = some (some (.string ByteArray.empty), 1, 16) := by kernel_rfl

def strs (l : List ByteArray) : List PT := l.map PT.str
theorem strs_length (l : List ByteArray) : (strs l).length = l.length := by simp [strs]
theorem strs_append (a b : List ByteArray) : strs (a ++ b) = strs a ++ strs b := by simp [strs]
theorem cellsL_strs (l : List ByteArray) : PT.cellsL (strs l) = l.map Value.string := by
  induction l with
  | nil => rfl
  | cons z r ih => simp only [strs, List.map_cons, PT.cellsL, PT.cells] at *; rw [ih]; rfl
theorem blocksL_strs (l : List ByteArray) : PT.blocksL (strs l) = [] := by
  induction l with
  | nil => rfl
  | cons z r ih => simp only [strs, List.map_cons, PT.blocksL, PT.blocks] at *; rw [ih]; rfl
theorem strs_cells (l : List ByteArray) : ∀ t ∈ strs l, t.cells.length = 1 := fun t ht => by
  simp only [strs, List.mem_map] at ht; obtain ⟨z, _, rfl⟩ := ht; rfl
theorem ownL_strs (w : World) (l : List ByteArray) : OwnL w (strs l) := OwnL.of_get fun t ht => by
  simp only [strs, List.mem_map] at ht; obtain ⟨z, _, rfl⟩ := ht; trivial
theorem Seen.str_at {w : World} {S : Nat → Prop} {A : Option Addr} {c : Nat} {l : List ByteArray} (h : Seen w S (.sl A c 1 (strs l))) {k : Nat} (hk : k < l.length) :
    ∃ b o, A = some ⟨b, o, none⟩ ∧ S b ∧ w.cell? ⟨b, o + k, none⟩ = some (.string (l[k]'hk)) := by
  have h1 := h.2.2.1
  rw [cellsL_strs] at h1
  exact h1 k _ (by simp [hk])
/-- A new block of strings. -/
theorem owned_strs {w : World} {S : Nat → Prop} (l : List ByteArray) (e : TypeId) (hl : l.length ≤ maxLen) (hS : S w.heap.size) : Owned (w.alloc (.cells (l.map Value.string).toArray e)) S (.sl (some ⟨w.heap.size, 0, none⟩) l.length 1 (strs l)) :=
  ⟨own_of_block (strs_cells l) (by rw [cellsL_strs]; simp [strs]) (heap_alloc_new w _) (by simp [strs]) hl (by simp) (by rw [cellsL_strs]; simp [strs, List.take_of_length_le]) (ownL_strs _ _), by simp [PT.blocks, blocksL_strs, PT.rowOf],
    by simpa [PT.blocks, blocksL_strs, PT.rowOf] using hS⟩

def wordsB : List ByteArray := words.map fun l => ⟨l.toArray⟩
def opsB : List ByteArray := ops.map fun l => ⟨l.toArray⟩

/-- Is a text in a list? -/
def hasS (l : List ByteArray) (s : ByteArray) : Bool := l.any fun x => x.toList == s.toList
theorem hasS_words (s : ByteArray) : hasS wordsB s = isWordL s.data.toList := by
  rw [Bool.eq_iff_iff]
  simp only [hasS, wordsB, isWordL, List.any_map, List.any_eq_true, Function.comp, List.contains_iff_mem, beq_iff_eq, Lib.toList_data]
  exact ⟨fun ⟨x, h1, h2⟩ => by rw [← h2]; exact h1, fun h => ⟨_, h, rfl⟩⟩
theorem hasS_ops (s : ByteArray) : hasS opsB s = isOpL s.data.toList := by
  rw [Bool.eq_iff_iff]
  simp only [hasS, opsB, isOpL, List.any_map, List.any_eq_true, Function.comp, List.contains_iff_mem, beq_iff_eq, Lib.toList_data]
  exact ⟨fun ⟨x, h1, h2⟩ => by rw [← h2]; exact h1, fun h => ⟨_, h, rfl⟩⟩

set_option maxHeartbeats 400000 in
theorem isWord_any (s : ByteArray) (w : World) : Calls Tryz.prog 265 #[.string s] w fun e w' => e = .returned (.bool (isWordL s.data.toList)) ∧ w = w' := by
  have hL := Lib.toList_data s
  have hd : isWordL s.data.toList = hasS wordsB s := (hasS_words s).symm
  have Hd := Lib.hid hd
  have HL := Lib.hid hL
  clear hd hL
  go_enter Tryz.func265, Tryz.ntmps265
  go_wp2
  all_goals (go_ret; exact ⟨ret_bool (by have := HL.out; simp_all [isWordL, words]), rfl⟩)

set_option maxHeartbeats 400000 in
theorem l1Has_any (A : Option Addr) (c : Nat) (l : List ByteArray) (s : ByteArray) (w : World) (S : Nat → Prop) (hs : Seen w S (.sl A c 1 (strs l))) (hn : l.length ≤ 1048576) :
    Calls Tryz.prog 202 #[.slice A l.length c, .string s] w fun e w' => e = .returned (.bool (hasS l s)) ∧ ∃ n, w' = w.drewN n := by
  go_enter Tryz.func202, Tryz.ntmps202
  go_wp2
  go_loopw [5] (fun i wr => ∃ k n : Nat, k ≤ l.length ∧ i = .int .i64 k ∧ wr = w.drewN n ∧ hasS l s = hasS (l.drop k) s) (fun i _ => l.length - (intOf i).toNat)
  case atStart => exact ⟨0, 0, Nat.zero_le _, rfl, rfl, rfl⟩
  case round =>
    obtain ⟨k, n, hk, rfl, rfl, hr⟩ := hrel
    have Hr := Lib.hid hr
    clear hr
    by_cases hlt : k < l.length
    · obtain ⟨b, o, rfl, _, hcell⟩ := hs.str_at hlt
      have hd : hasS (l.drop k) s = (l[k].toList == s.toList || hasS (l.drop (k + 1)) s) := by rw [List.drop_eq_getElem_cons hlt]; rfl
      have Hd := Lib.hid hd
      clear hd hs
      cases hq : l[k].toList == s.toList
      all_goals
        go_wp2
        first
          | (
              go_roundw
              case rel => exact ⟨k + 1, n, by omega, by go_num, rfl, by rw [Hr.out, Hd.out, hq]; rfl⟩
              case measure => simp [intOf]; omega)
          | (
              go_ret
              exact ⟨ret_bool (by rw [Hr.out, Hd.out, hq]; rfl), n, rfl⟩)
    · go_wp2
      go_ret
      exact ⟨ret_bool (by rw [Hr.out, List.drop_eq_nil_of_le (by omega)]; rfl), n, rfl⟩

theorem l2Words_any (w : World) : Calls Tryz.prog 256 #[] w fun e w' => e = .returned (.slice (some ⟨w.heap.size, 0, none⟩) 7 7) ∧ w.alloc (.cells (wordsB.map Value.string).toArray 9) = w' := by
  go_enter Tryz.func256, Tryz.ntmps256
  go_wp2
  go_ret
  exact ⟨rfl, rfl⟩
theorem l2Binaries_any (w : World) : Calls Tryz.prog 257 #[] w fun e w' => e = .returned (.slice (some ⟨w.heap.size, 0, none⟩) 15 15) ∧ w.alloc (.cells (opsB.map Value.string).toArray 9) = w' := by
  go_enter Tryz.func257, Tryz.ntmps257
  go_wp2
  go_ret
  exact ⟨rfl, rfl⟩
theorem operators_any (w : World) : Calls Tryz.prog 268 #[] w fun e w' => e = .returned (.slice (some ⟨w.heap.size, 0, none⟩) 15 15) ∧ w.alloc (.cells (opsB.map Value.string).toArray 9) = w' := by
  go_enter Tryz.func268, Tryz.ntmps268
  go_wp2
  go_ret
  exact ⟨rfl, rfl⟩

/-- The first text of a list with which s begins. -/
def firstPre (s : ByteArray) (l : List ByteArray) : ByteArray := (l.find? fun x => Lib.hasPrefix s.data.toList x.data.toList).getD ByteArray.empty

set_option maxHeartbeats 400000 in
theorem firstOf_any (A : Option Addr) (c : Nat) (l : List ByteArray) (s : ByteArray) (w : World) (S : Nat → Prop) (hs : Seen w S (.sl A c 1 (strs l))) (hn : l.length ≤ 1048576) :
    Calls Tryz.prog 267 #[.string s, .slice A l.length c] w fun e w' => e = .returned (.string (firstPre s l)) ∧ ∃ n, w' = w.drewN n := by
  go_enter Tryz.func267, Tryz.ntmps267
  go_wp2
  go_loopw [9] (fun i wr => ∃ k n : Nat, k ≤ l.length ∧ i = .int .i64 k ∧ wr = w.drewN n ∧ firstPre s l = firstPre s (l.drop k)) (fun i _ => l.length - (intOf i).toNat)
  case atStart => exact ⟨0, 0, Nat.zero_le _, rfl, rfl, rfl⟩
  case round =>
    obtain ⟨k, n, hk, rfl, rfl, hr⟩ := hrel
    have Hr := Lib.hid hr
    clear hr
    by_cases hlt : k < l.length
    · obtain ⟨b, o, rfl, _, hcell⟩ := hs.str_at hlt
      have hd : firstPre s (l.drop k) = if Lib.hasPrefix s.data.toList l[k].data.toList then l[k] else firstPre s (l.drop (k + 1)) := by
        rw [List.drop_eq_getElem_cons hlt]
        simp only [firstPre, List.find?_cons]
        split <;> simp_all
      have Hd := Lib.hid hd
      clear hd hs
      cases hq : Lib.hasPrefix s.data.toList l[k].data.toList
      all_goals
        go_wp2_with (go_at_call 287; refine (Tryz.strings_HasPrefix _ _ _).mono ?_; rintro e w' ⟨rfl, rfl⟩)
        first
          | (
              go_roundw
              case rel => exact ⟨k + 1, n, by omega, by go_num, rfl, by rw [Hr.out, Hd.out, hq]; rfl⟩
              case measure => simp [intOf]; omega)
          | (
              go_ret
              exact ⟨ret_str (by rw [Hr.out, Hd.out, hq]; rfl), n, rfl⟩)
    · go_wp2
      go_ret
      exact ⟨ret_str (by rw [Hr.out, List.drop_eq_nil_of_le (by omega)]; rfl), n, rfl⟩

theorem firstPre_mem (s : ByteArray) (l : List ByteArray) (h : firstPre s l = s) (hs : s.data.toList ≠ []) : s ∈ l := by
  unfold firstPre at h
  cases hf : l.find? (fun x => Lib.hasPrefix s.data.toList x.data.toList) with
  | none => rw [hf] at h; simp only [Option.getD_none] at h; rw [← h] at hs; exact absurd rfl hs
  | some x => rw [hf] at h; simp only [Option.getD_some] at h; subst h; exact List.mem_of_find?_eq_some hf
theorem firstPre_ops : ∀ l ∈ opsB, ((firstPre l opsB).toList == l.toList) = true ∧ l.toList ≠ [] := by decide +kernel
theorem isOp_eq (s : ByteArray) : (!s.toList.isEmpty && (firstPre s opsB).toList == s.toList) = isOpL s.data.toList := by
  rw [← hasS_ops, Bool.eq_iff_iff]
  constructor
  · intro h
    simp only [Bool.and_eq_true, Bool.not_eq_true', beq_iff_eq] at h
    have h1 : firstPre s opsB = s := bytes_eq (by rw [← Lib.toList_data, ← Lib.toList_data]; exact h.2)
    have h2 : s ∈ opsB := firstPre_mem s opsB h1 (by intro e; rw [← Lib.toList_data] at e; rw [e] at h; simp at h)
    simp only [hasS, List.any_eq_true]
    exact ⟨s, h2, by simp⟩
  · intro h
    simp only [hasS, List.any_eq_true] at h
    obtain ⟨x, hx, he⟩ := h
    have e : x = s := bytes_eq (by rw [← Lib.toList_data, ← Lib.toList_data]; exact beq_iff_eq.1 he)
    subst e
    obtain ⟨h1, h2⟩ := firstPre_ops x hx
    rw [h1]
    cases hx : x.toList with
    | nil => exact absurd hx h2
    | cons => rfl

set_option maxHeartbeats 400000 in
theorem isOperator_any (s : ByteArray) (w : World) : Calls Tryz.prog 213 #[.string s] w fun e w' => e = .returned (.bool (isOpL s.data.toList)) ∧ Below w.heap.size w w' := by
  have Hq := Lib.hid (isOp_eq s)
  cases hn : s.toList.isEmpty
  all_goals
    go_enter Tryz.func213, Tryz.ntmps213
    go_wp2_with (first
      | (go_at_call 268; refine (operators_any _).mono ?_; rintro e w' ⟨rfl, rfl⟩)
      | (go_at_call 267; refine (firstOf_any _ 15 opsB s _ (fun _ => True) (owned_strs opsB _ (by decide) trivial).seen (by decide)).mono ?_; rintro e w' ⟨rfl, n, rfl⟩))
    go_ret
    first
      | exact ⟨ret_bool (by rw [← Hq.out, hn]; rfl), Below.refl _ _⟩
      | exact ⟨ret_bool (by rw [← Hq.out, hn]; rfl), below_drewN ((Below.refl _ _).alloc (Nat.le_refl _) _) _⟩

set_option maxHeartbeats 400000 in
theorem isName_any (s : ByteArray) (w : World) (hs : s.size ≤ 1048576) : Calls Tryz.prog 211 #[.string s] w fun e w' => e = .returned (.bool (isNameL s.data.toList)) ∧ ∃ n, w' = w.drewN n := by
  cases hp : isPartL s.data.toList
  all_goals
    go_enter Tryz.func211, Tryz.ntmps211
    go_wp2_with (first
      | (go_at_call 264; refine (isPart_any s _ hs).mono ?_; rintro e w' ⟨rfl, n, rfl⟩)
      | (go_at_call 265; refine (isWord_any s _).mono ?_; rintro e w' ⟨rfl, rfl⟩))
    go_ret
    exact ⟨ret_bool (by rw [isNameL, hp]; simp), n, rfl⟩

set_option maxHeartbeats 400000 in
theorem l2IsName_any (s : ByteArray) (w : World) (hs : s.size ≤ 1048576) : Calls Tryz.prog 255 #[.string s] w fun e w' => e = .returned (.bool (isPartL s.data.toList)) ∧ ∃ n, w' = w.drewN n := by
  by_cases h1 : 1 ≤ (s.size : Int)
  · have h0 : 0 < s.size := by omega
    have Hf := Lib.hid (isPartL_cons s h0)
    have Hr := Lib.hid (runLen_all s.data.toList)
    have hr : runLen s.data.toList ≤ s.size := by have := runLen_le s.data.toList; rw [size_toList] at this; exact this
    by_cases h2 : (s.size : Int) ≤ 20
    all_goals cases hl : letter s[0]
    all_goals
      go_enter Tryz.func255, Tryz.ntmps255
      go_wp2_with (first
        | (go_at_call 283; refine (l2Letter_any s[0] _).mono ?_; rintro e w' ⟨rfl, rfl⟩)
        | (go_at_call 284; refine (l2Run_any s 0 _ hs (by omega)).mono ?_; rintro e w' ⟨rfl, n, rfl⟩))
      go_ret
      first
        | exact ⟨ret_bool (by rw [Hf.out, hl, decide_eq_false (by omega)]; rfl), 0, rfl⟩
        | exact ⟨ret_bool (by rw [Hf.out, hl]; simp), 0, rfl⟩
        | (
            refine ⟨ret_bool ?_, n, rfl⟩
            rw [Hf.out, hl, decide_eq_true (show s.size ≤ 20 by omega)]
            have hx := Hr.out
            rw [size_toList] at hx
            rw [Bool.eq_iff_iff]
            simp only [Bool.true_and, ← hx]
            simp
            try omega)
  · go_enter Tryz.func255, Tryz.ntmps255
    go_wp2
    go_ret
    exact ⟨ret_bool (isPartL_nil s (by omega)).symm, 0, rfl⟩

/-- 'append(s, v)' onto a slice of strings of the call's own. -/
theorem wpList_append_str {ops : Array Oper} {rest : List Oper} {o : Oper} {a : Act} {Q : Exit → Act → World → Prop} {w : World} (hgd : o.guard = none) (s x : Operand)
    (ho : o.op = .call { callee := .builtin .append, args := #[s, x], argTypes := #[34, 34] }) {S : Nat → Prop} (A : Option Addr) (c n : Nat) (l : List ByteArray) (v : ByteArray)
    (hs : a.eval s = .slice A n c) (hx : a.eval x = .slice (some ⟨w.heap.size, 0, none⟩) 1 1) (hown : Owned w S (.sl A c 1 (strs l))) (hn : n = l.length) (hS : S (w.heap.size + 1)) (hl : n ≤ 1000000000)
    (h : ∀ A' c' w', Owned w' S (.sl A' c' 1 (strs (l ++ [v]))) → Touch (· ∈ PT.rowOf A) w w' → (∀ g, A = some ⟨g, 0, none⟩ → ∃ g', A' = some ⟨g', 0, none⟩) → wpList Tryz.prog ops Q rest (a.put o.dst (.slice A' (n + 1) c')) w') :
    wpList Tryz.prog ops Q (o :: rest) a (w.alloc (.cells #[.string v] 9)) :=
  wpList_append_one hgd s x 34 9 (.string ByteArray.empty) 1 16 ho Tryz.underlying34 Tryz.infoStr rfl (by omega) A c n (strs l) (.str v) hs hx hown (by rw [strs_length]; exact hn) rfl trivial rfl hS hl (by omega)
    fun A' c' w' h1 h2 h3 => h A' c' w' (by rw [strs_append]; exact h1) h2 h3

set_option maxHeartbeats 800000 in
theorem splitByte_any (s : ByteArray) (b : UInt8) (w : World) (hs : s.size ≤ 1048576) : Calls Tryz.prog 258 #[.string s, .int .u8 (b.toNat : Int)] w fun e w' => ∃ (ps : List ByteArray) (g c : Nat), ps.map (·.data.toList) = spl b s.data.toList ∧ e = .returned (.slice (some ⟨g, 0, none⟩) ps.length c) ∧ Below w.heap.size w w' ∧ Owned w' (w.heap.size ≤ ·) (.sl (some ⟨g, 0, none⟩) c 1 (strs ps)) := by
  go_enter Tryz.func258, Tryz.ntmps258
  go_wp2
  go_loopw [5, 6, 7] (fun ov fv iv wr => ∃ (k f m g c : Nat) (ps : List ByteArray), k ≤ s.size + 1 ∧ iv = .int .i64 k ∧ fv = .int .i64 f ∧ f ≤ k ∧ m ≤ k ∧ ps.length = m ∧ ov = .slice (some ⟨g, 0, none⟩) m c ∧ Below w.heap.size w wr ∧ Owned wr (w.heap.size ≤ ·) (.sl (some ⟨g, 0, none⟩) c 1 (strs ps)) ∧
    (if k ≤ s.size then ps.map (·.data.toList) ++ glue ((s.data.toList.take k).drop f) (spl b (s.data.toList.drop k)) else ps.map (·.data.toList)) = spl b s.data.toList) (fun _ _ iv _ => s.size + 1 - (intOf iv).toNat)
  case atStart => exact ⟨0, 0, 0, _, _, [], Nat.zero_le _, rfl, rfl, Nat.le_refl _, Nat.le_refl _, rfl, rfl, (Below.refl _ _).alloc (Nat.le_refl _) _, owned_made _ _ (Nat.le_refl _), by simp [glue_nil]⟩
  case round =>
    obtain ⟨k, f, m, g, c, ps, hk, rfl, rfl, hf, hm, hl, rfl, hb, ho, hr⟩ := hrel
    have Hr := Lib.hid hr
    have Hl := Lib.hid hl
    clear hr hl
    have hg : w.heap.size ≤ g := ho.2.2 g (by simp [PT.blocks, PT.rowOf])
    have hsz := hb.size
    by_cases hlt : k ≤ s.size
    · by_cases hend : k = s.size
      · have he : ((k : Int) == (s.size : Int)) = true := by simp [hend]
        have Hend := Lib.hid hend
        clear hend
        go_wp2_with (at_builtin; refine wpList_append_str rfl (.tmp 26) (.tmp 31) rfl (S := (w.heap.size ≤ ·)) (some ⟨g, 0, none⟩) c m ps (s.extract f k) rfl rfl ho Hl.out.symm (by omega) (by omega) ?_; intro A5 c5 w5 ho5 ht5 hA5)
        obtain ⟨g5, rfl⟩ := hA5 g rfl
        have hb5 := hb.trans (ht5.below (B := w.heap.size) hb.size (fun b h => by simp [PT.rowOf] at h; omega))
        clear ho hb ht5
        go_roundw
        case rel =>
          refine ⟨k + 1, k + 1, m + 1, g5, c5, ps ++ [s.extract f k], by omega, by go_num, by go_num, Nat.le_refl _, by omega, by simp [Hl.out], rfl, hb5, ho5, ?_⟩
          have h1 := Hr.out
          have h2 := Hend.out
          rw [if_pos hlt] at h1
          have h5 : s.data.toList.drop s.size = [] := List.drop_eq_nil_of_le (by rw [size_toList]; omega)
          rw [if_neg (by omega), ← h1, h2, h5]
          simp only [spl, glue, List.headD_cons, List.append_nil, List.tail_cons, List.map_append, List.map_cons, List.map_nil]
          rw [Lib.extract_data, ← List.drop_take]
        case measure => simp [intOf]; omega
      · have he : ((k : Int) == (s.size : Int)) = false := by simp; omega
        have hks : k < s.size := by omega
        have hdr := drop_byte s hks
        have Hdr := Lib.hid hdr
        clear hdr
        cases hq : ((s[k].toNat : Int) == (b.toNat : Int))
        · go_wp2
          go_roundw
          case rel =>
            refine ⟨k + 1, f, m, g, c, ps, by omega, by go_num, rfl, by omega, by omega, Hl.out, rfl, hb, ho, ?_⟩
            have h1 := Hr.out
            rw [if_pos hlt, Hdr.out, glue_miss _ _ _ _ (fun e => by simp [e] at hq)] at h1
            rw [if_pos (by omega), ← h1]
            have h3 : (s.data.toList.take (k + 1)).drop f = (s.data.toList.take k).drop f ++ [s[k]] := by
              rw [List.take_add_one, List.getElem?_eq_getElem (by rw [size_toList]; exact hks), List.drop_append_of_le_length (by rw [List.length_take, size_toList]; omega)]
              rfl
            rw [h3]
          case measure => simp [intOf]; omega
        · go_wp2_with (at_builtin; refine wpList_append_str rfl (.tmp 26) (.tmp 31) rfl (S := (w.heap.size ≤ ·)) (some ⟨g, 0, none⟩) c m ps (s.extract f k) rfl rfl ho Hl.out.symm (by omega) (by omega) ?_; intro A5 c5 w5 ho5 ht5 hA5)
          obtain ⟨g5, rfl⟩ := hA5 g rfl
          have hb5 := hb.trans (ht5.below (B := w.heap.size) hb.size (fun b h => by simp [PT.rowOf] at h; omega))
          clear ho hb ht5
          go_roundw
          case rel =>
            refine ⟨k + 1, k + 1, m + 1, g5, c5, ps ++ [s.extract f k], by omega, by go_num, by go_num, Nat.le_refl _, by omega, by simp [Hl.out], rfl, hb5, ho5, ?_⟩
            have h1 := Hr.out
            have hbb : s[k] = b := by
              have : (s[k].toNat : Int) = (b.toNat : Int) := beq_iff_eq.1 hq
              exact UInt8.toNat_inj.1 (by omega)
            rw [if_pos hlt, Hdr.out, hbb, glue_hit] at h1
            have h4 : ((s.data.toList.take (k + 1)).drop (k + 1)) = [] := List.drop_eq_nil_of_le (by rw [List.length_take]; omega)
            rw [if_pos (by omega), h4, glue_nil, ← h1]
            simp only [List.map_append, List.map_cons, List.map_nil, List.append_assoc, List.singleton_append]
            rw [Lib.extract_data, ← List.drop_take]
          case measure => simp [intOf]; omega
    · go_wp2
      go_ret
      refine ⟨ps, g, c, ?_, by rw [Hl.out]; rfl, hb, ho⟩
      have := Hr.out
      rw [if_neg hlt] at this
      exact this

end Go.Proofs.YtiihihgjiklnoaaGreatDoor
/- From the data that a row reads to values with addresses: every argument whose type is made of ints, bools, strings, structs and slices opens to a tree that can be read. -/
namespace Go.Proofs.YtiihihgjiklnoaaGreatDoor
open Go Go.RowKit

inductive Ty where
  | int (k : IntKind)
  | bool
  | str
  | agg (l : List Ty)
  | sl (m : Nat) (e : Ty)

mutual
def Ty.size : Ty → Nat
  | .agg l => Ty.sizeL l
  | _ => 1
def Ty.sizeL : List Ty → Nat
  | [] => 0
  | t :: r => Ty.size t + Ty.sizeL r
end

mutual
def HasTy : Ty → PT → Prop
  | .int k, t => ∃ n, t = .int k n
  | .bool, t => ∃ b, t = .bool b
  | .str, t => ∃ s, t = .str s
  | .agg l, t => ∃ ts, t = .agg ts ∧ HasTys l ts
  | .sl m e, t => ∃ A c l, t = .sl A c m l ∧ ∀ u ∈ l, HasTy e u
def HasTys : List Ty → List PT → Prop
  | [], ts => ts = []
  | t :: r, ts => ∃ u us, ts = u :: us ∧ HasTy t u ∧ HasTys r us
end

mutual
/-- Numbers fit their kinds, strings have a size that a machine bears. -/
def PT.sane : PT → Prop
  | .int k n => (Lit.int k n).wf = true
  | .str s => s.size ≤ maxLen
  | .bool _ => True
  | .agg l => saneL l
  | .sl _ _ _ l => saneL l
def PT.saneL : List PT → Prop
  | [] => True
  | t :: r => PT.sane t ∧ PT.saneL r
end
theorem PT.saneL_of {l : List PT} (h : ∀ t ∈ l, t.sane) : PT.saneL l := by
  induction l with
  | nil => trivial
  | cons x r ih => exact ⟨h x (by simp), ih fun t ht => h t (by simp [ht])⟩
theorem PT.saneL_mem {l : List PT} (h : PT.saneL l) {t : PT} (ht : t ∈ l) : t.sane := by
  induction l with
  | nil => cases ht
  | cons x r ih =>
    rcases List.mem_cons.1 ht with rfl | ht
    · exact h.1
    · exact ih h.2 ht

mutual
/-- The type T of the program is made as the description says. -/
def tyB (P : Program) : Ty → TypeId → Bool
  | .int k, T => match P.underlying T with | some (.int k') => k == k' | _ => false
  | .bool, T => match P.underlying T with | some .bool => true | _ => false
  | .str, T => match P.underlying T with | some .string => true | _ => false
  | .agg l, T => match P.underlying T with | some (.struct fs) => tysB P l fs.toList 0 && (P.cellsOf T == Ty.sizeL l) | _ => false
  | .sl m e, T => match P.underlying T with | some (.slice E) => tyB P e E && (P.cellsOf E == m) && (Ty.size e == m) && decide (0 < m) | _ => false
def tysB (P : Program) : List Ty → List Field → Nat → Bool
  | [], [], _ => true
  | t :: r, f :: fs, off => (f.offset == off) && tyB P t f.type && (P.cellsOf f.type == Ty.size t) && tysB P r fs (off + Ty.size t)
  | _, _, _ => false
end

mutual
theorem hasTy_size : ∀ (τ : Ty) (t : PT), HasTy τ t → t.cells.length = τ.size
  | .int k, t, h => by simp only [HasTy] at h; obtain ⟨n, rfl⟩ := h; rfl
  | .bool, t, h => by simp only [HasTy] at h; obtain ⟨n, rfl⟩ := h; rfl
  | .str, t, h => by simp only [HasTy] at h; obtain ⟨n, rfl⟩ := h; rfl
  | .agg l, t, h => by
    simp only [HasTy] at h
    obtain ⟨ts, rfl, h⟩ := h
    simp only [PT.cells, Ty.size]
    exact hasTys_size l ts h
  | .sl m e, t, h => by simp only [HasTy] at h; obtain ⟨A, c, l, rfl, _⟩ := h; rfl
theorem hasTys_size : ∀ (l : List Ty) (ts : List PT), HasTys l ts → (PT.cellsL ts).length = Ty.sizeL l
  | [], ts, h => by simp only [HasTys] at h; subst h; rfl
  | τ :: r, ts, h => by
    simp only [HasTys] at h
    obtain ⟨u, us, rfl, h1, h2⟩ := h
    simp only [PT.cellsL, List.length_append, Ty.sizeL]
    rw [hasTy_size τ u h1, hasTys_size r us h2]
end

section
variable {H : Type} {enc : TypeId × Value → H} {P : Program} {w : World} {base : Nat} {spare : Nat → Bool} {held : Bool}

theorem plain_addr {a : Addr} {v : Value} (h : w.cell? a = some v) : ∃ b o, a = ⟨b, o, none⟩ := by
  obtain ⟨b, o, s⟩ := a
  cases s with
  | none => exact ⟨b, o, rfl⟩
  | some s => simp [World.cell?] at h; split at h <;> simp at h

mutual
theorem open_pt : ∀ (τ : Ty) (T : TypeId) (fuel : Nat) (cs : List Value) (x : DataW H × List MemPlace), tyB P τ T = true → DataW.trod enc P w base spare held fuel T cs = some x →
    ∃ t : PT, HasTy τ t ∧ t.cells = cs ∧ Seen w (· < w.heap.size) t ∧ t.sane
  | .int k, T, fuel, cs, x, ht, h => by
    simp only [tyB] at ht
    split at ht
    · rename_i k' hu
      obtain ⟨n, rfl, _, hwf⟩ := DataW.trod_int hu h
      have : k = k' := by simpa using ht
      subst this
      exact ⟨.int k n, by simp [HasTy], rfl, trivial, hwf⟩
    · cases ht
  | .bool, T, fuel, cs, x, ht, h => by
    simp only [tyB] at ht
    split at ht
    · rename_i hu
      obtain ⟨b, rfl, _⟩ := DataW.trod_bool hu h
      exact ⟨.bool b, by simp [HasTy], rfl, trivial, trivial⟩
    · cases ht
  | .str, T, fuel, cs, x, ht, h => by
    simp only [tyB] at ht
    split at ht
    · rename_i hu
      obtain ⟨s, rfl, _, hs⟩ := DataW.trod_string hu h
      exact ⟨.str s, by simp [HasTy], rfl, trivial, hs⟩
    · cases ht
  | .agg l, T, fuel, cs, x, ht, h => by
    simp only [tyB] at ht
    split at ht
    · rename_i fs hu
      simp only [Bool.and_eq_true, beq_iff_eq] at ht
      obtain ⟨xs, n, _, _, hcl, hxl, hf⟩ := DataW.trod_struct hu h
      obtain ⟨ts, h1, h2, h3, h4⟩ := opens_pt l fs.toList 0 n cs ht.1 (by rw [hcl, ht.2]; simp) (fun i f hfi => by
        have h5 := hf i f (by simpa using hfi)
        have hi : i < xs.length := by rw [hxl]; have := (List.getElem?_eq_some_iff.1 hfi).1; simpa using this
        rw [List.getElem?_eq_getElem hi] at h5
        exact ⟨_, h5⟩)
      exact ⟨.agg ts, by simp only [HasTy]; exact ⟨ts, rfl, h1⟩, by simpa [PT.cells] using h2, h3, h4⟩
    · cases ht
  | .sl m e, T, fuel, cs, x, ht, h => by
    simp only [tyB] at ht
    split at ht
    · rename_i E hu
      simp only [Bool.and_eq_true, beq_iff_eq, decide_eq_true_eq] at ht
      obtain ⟨⟨⟨hE, hm⟩, hsz⟩, hm0⟩ := ht
      rcases Go.Deep.open_slice hu h with ⟨rfl, _⟩ | ⟨a, len, cap, mm, n, D, Pl, rfl, _, hl, hc, hmm, _, hel⟩
      · exact ⟨.sl none 0 m [], by simp only [HasTy]; exact ⟨_, _, _, rfl, by simp⟩, rfl, ⟨by simp, by simp, Sees.nil _ _ _, by simp, trivial⟩, trivial⟩
      · rw [hm] at hel
        have hge : len ≤ mm := by rw [hmm]; split <;> omega
        -- the elements, one behind the other
        have build : ∀ k, k ≤ len → ∃ l : List PT, l.length = k ∧ (∀ u ∈ l, HasTy e u) ∧ SeenL w (· < w.heap.size) l ∧ PT.saneL l ∧ ∀ j v, (PT.cellsL l)[j]? = some v → w.cell? (a.add j) = some v := by
          intro k
          induction k with
          | zero => intro _; exact ⟨[], rfl, by simp, trivial, trivial, by simp [PT.cellsL]⟩
          | succ k ih =>
            intro hk
            obtain ⟨l, hll, h1, h2, h3, h4⟩ := ih (by omega)
            obtain ⟨cs', hc', ht'⟩ := hel k (by omega)
            obtain ⟨t, ht1, ht2, ht3, ht4⟩ := open_pt e E n cs' _ hE ht'
            obtain ⟨_, hcl', hat⟩ := World.cells?_some hc'
            have hll2 : (PT.cellsL l).length = k * m := by
              rw [PT.length_cellsL (m := m) (fun u hu => by rw [hasTy_size e u (h1 u hu), hsz]), hll]
            refine ⟨l ++ [t], by simp [hll], fun u hu => ?_, SeenL.of_get fun u hu => ?_, PT.saneL_of fun u hu => ?_, fun j v hj => ?_⟩
            · rcases List.mem_append.1 hu with hu | hu
              · exact h1 u hu
              · rw [List.mem_singleton.1 hu]; exact ht1
            · rcases List.mem_append.1 hu with hu | hu
              · obtain ⟨i, hi, rfl⟩ := List.getElem_of_mem hu
                exact SeenL.get h2 (List.getElem?_eq_getElem hi)
              · rw [List.mem_singleton.1 hu]; exact ht3
            · rcases List.mem_append.1 hu with hu | hu
              · exact PT.saneL_mem h3 hu
              · rw [List.mem_singleton.1 hu]; exact ht4
            · rw [PT.cellsL_append] at hj
              simp only [PT.cellsL, List.append_nil] at hj
              rw [ht2] at hj
              by_cases hjl : j < (PT.cellsL l).length
              · rw [List.getElem?_append_left hjl] at hj
                exact h4 j v hj
              · rw [List.getElem?_append_right (by omega)] at hj
                have hj2 := (List.getElem?_eq_some_iff.1 hj).1
                have h5 := hat (j - (PT.cellsL l).length) (by rw [← hcl']; exact hj2)
                rw [hj] at h5
                rw [← h5, Addr.add_add, show k * m + (j - (PT.cellsL l).length) = j by omega]
        obtain ⟨l, hll, h1, h2, h3, h4⟩ := build len (Nat.le_refl _)
        subst hll
        refine ⟨.sl (some a) cap m l, by simp only [HasTy]; exact ⟨_, _, _, rfl, h1⟩, rfl, ⟨hl, hc, fun j v hj => ?_, fun u hu => by rw [hasTy_size e u (h1 u hu), hsz], h2⟩, h3⟩
        have h0 : 0 < (PT.cellsL l).length := by have := (List.getElem?_eq_some_iff.1 hj).1; omega
        have hz := h4 0 _ (List.getElem?_eq_getElem h0)
        rw [Addr.add_zero'] at hz
        obtain ⟨b, o, rfl⟩ := plain_addr hz
        have hv := h4 j v hj
        rw [Addr.add_lit] at hv
        exact ⟨b, o, rfl, World.block_lt_of_cell? w _ hz, hv⟩
    · cases ht
theorem opens_pt : ∀ (l : List Ty) (fs : List Field) (off fuel : Nat) (cs : List Value), tysB P l fs off = true → cs.length = off + Ty.sizeL l →
    (∀ (i : Nat) (f : Field), fs[i]? = some f → ∃ y, DataW.trod enc P w base spare held fuel f.type ((cs.drop f.offset).take (P.cellsOf f.type)) = some y) →
    ∃ ts : List PT, HasTys l ts ∧ PT.cellsL ts = cs.drop off ∧ SeenL w (· < w.heap.size) ts ∧ PT.saneL ts
  | [], fs, off, fuel, cs, h, hl, _ => by
    refine ⟨[], by simp [HasTys], ?_, trivial, trivial⟩
    rw [List.drop_eq_nil_of_le (by rw [hl]; simp [Ty.sizeL])]; rfl
  | τ :: r, [], off, fuel, cs, h, hl, _ => by simp [tysB] at h
  | τ :: r, f :: fs, off, fuel, cs, h, hl, hf => by
    simp only [tysB, Bool.and_eq_true, beq_iff_eq] at h
    obtain ⟨⟨⟨h1, h2⟩, h3⟩, h4⟩ := h
    obtain ⟨y, hy⟩ := hf 0 f rfl
    rw [h1, h3] at hy
    obtain ⟨t, ht1, ht2, ht3, ht4⟩ := open_pt τ f.type fuel _ y h2 hy
    obtain ⟨ts, hs1, hs2, hs3, hs4⟩ := opens_pt r fs (off + τ.size) fuel cs h4 (by rw [hl]; simp only [Ty.sizeL]; omega) (fun i g hg => hf (i + 1) g (by simpa using hg))
    refine ⟨t :: ts, by simp only [HasTys]; exact ⟨t, ts, rfl, ht1, hs1⟩, ?_, ⟨ht3, hs3⟩, ⟨ht4, hs4⟩⟩
    simp only [PT.cellsL]
    rw [ht2, hs2, ← List.drop_drop]
    exact List.take_append_drop _ _
end
end

end Go.Proofs.YtiihihgjiklnoaaGreatDoor
