/- Part 4 of the proof: the texts Str, Num, SelPure, Sel, Sel2, Sel3. -/
import Derived.Test.YtiihihgjiklnoaaGreatDoorQb1
import Derived.Test.YtiihihgjiklnoaaGreatDoorChecked
import Derived.Deep.QuietTactic
import Derived.BigQuiet
import Derived.Lib.Strings
import Derived.WideShapes
import Derived.Test.YtiihihgjiklnoaaGreatDoorQb2
import Derived.Lib.AppendIntMem
import Derived.Lib.SplitLaws
import Derived.Deep.RegionLaw
/- The contracts of the small functions on numbers and strings that both the program and the reference lean on. -/
namespace Go.Proofs.YtiihihgjiklnoaaGreatDoor
open Go Go.RowKit

def inR (n a b : Int) : Bool := decide (a ≤ n ∧ n ≤ b)
theorem t8 {n a b : Int} (h : a ≤ n ∧ n ≤ b) : inR n a b = true := by simp [inR, h]
theorem zO {n a b : Int} (h : ¬ (a ≤ n ∧ n ≤ b)) : inR n a b = false := by simp only [inR, decide_eq_false_iff_not]; exact h

theorem kG {a b : ByteArray} (h : a = b) : Ending.returned (.string a) = .returned (.string b) := by rw [h]
theorem gm {k : IntKind} {a b : Int} (h : a = b) : Ending.returned (.int k a) = .returned (.int k b) := by rw [h]
theorem bm {a b : Bool} (h : a = b) : Ending.returned (.bool a) = .returned (.bool b) := by rw [h]

set_option maxHeartbeats 400000 in
theorem oE (n a b : Int) (w : World) : Calls Tryz.prog 55 #[.int .i64 n, .int .i64 a, .int .i64 b] w fun e w' => e = .returned (.bool (inR n a b)) ∧ w = w' := by
  by_cases h1 : a ≤ n
  all_goals by_cases h2 : n ≤ b
  all_goals
    go_enter Tryz.func55, Tryz.ntmps55
    go_wp2
    go_ret
    exact ⟨bm (by simp [inR]; omega), rfl⟩

def fg (b : UInt8) : Bool := decide ((97 ≤ (b.toNat : Int) ∧ (b.toNat : Int) ≤ 122) ∨ (65 ≤ (b.toNat : Int) ∧ (b.toNat : Int) ≤ 90))
def sr (b : UInt8) : Bool := decide (48 ≤ (b.toNat : Int) ∧ (b.toNat : Int) ≤ 57)
def lod (b : UInt8) : Bool := fg b || sr b

theorem tQ (b : UInt8) (w : World) : Calls Tryz.prog 294 #[.int .u8 (b.toNat : Int)] w fun e w' => e = .returned (.bool (sr b)) ∧ w = w' := by
  go_enter Tryz.func294, Tryz.ntmps294
  go_wp2
  all_goals (go_ret; exact ⟨bm (by simp [sr]; omega), rfl⟩)
theorem tT (b : UInt8) (w : World) : Calls Tryz.prog 293 #[.int .u8 (b.toNat : Int)] w fun e w' => e = .returned (.bool (sr b)) ∧ w = w' := by
  go_enter Tryz.func293, Tryz.ntmps293
  go_wp2
  all_goals (go_ret; exact ⟨bm (by simp [sr]; omega), rfl⟩)
theorem ld (b : UInt8) (w : World) : Calls Tryz.prog 285 #[.int .u8 (b.toNat : Int)] w fun e w' => e = .returned (.bool (fg b)) ∧ w = w' := by
  go_enter Tryz.func285, Tryz.ntmps285
  go_wp2
  all_goals (go_ret; exact ⟨bm (by rw [Bool.eq_iff_iff]; simp [fg]; omega), rfl⟩)
theorem lh (b : UInt8) (w : World) : Calls Tryz.prog 283 #[.int .u8 (b.toNat : Int)] w fun e w' => e = .returned (.bool (fg b)) ∧ w = w' := by
  go_enter Tryz.func283, Tryz.ntmps283
  go_wp2
  all_goals (go_ret; exact ⟨bm (by rw [Bool.eq_iff_iff]; simp [fg]; omega), rfl⟩)

def ef : List UInt8 → Nat
  | [] => 0
  | b :: r => if lod b then ef r + 1 else 0
theorem ml (l : List UInt8) : ef l ≤ l.length := by
  induction l with
  | nil => simp [ef]
  | cons b r ih => simp only [ef, List.length_cons]; split <;> omega

theorem mQ (s : ByteArray) {k : Nat} (h : k < s.size) : s.data.toList.drop k = s[k] :: s.data.toList.drop (k + 1) := by
  rw [List.drop_eq_getElem_cons (by simpa using h)]; rfl
theorem bv (s : ByteArray) : s.data.toList.length = s.size := by rw [Array.length_toList]; rfl
theorem f9 (s : ByteArray) {k : Nat} (h : k < s.size) : ef (s.data.toList.drop k) = if lod s[k] then ef (s.data.toList.drop (k + 1)) + 1 else 0 := by
  rw [mQ s h]; rfl
theorem ot (s : ByteArray) {k : Nat} (h : ¬ k < s.size) : ef (s.data.toList.drop k) = 0 := by
  rw [List.drop_eq_nil_of_le (by rw [bv]; omega)]; rfl

set_option maxHeartbeats 400000 in
theorem xH (s : ByteArray) (w : World) (hs : s.size ≤ 1048576) : Calls Tryz.prog 286 #[.string s] w fun e w' => e = .returned (.string (s.extract 0 (ef s.data.toList))) ∧ ∃ n, w' = w.drewN n := by
  go_enter Tryz.func286, Tryz.ntmps286
  go_wp2
  go_loopw [3] (fun i wr => ∃ k n : Nat, k ≤ s.size ∧ i = .int .i64 k ∧ wr = w.drewN n ∧ ef s.data.toList = k + ef (s.data.toList.drop k)) (fun i _ => s.size - (intOf i).toNat)
  case atStart => exact ⟨0, 0, Nat.zero_le _, rfl, rfl, by simp⟩
  case round =>
    obtain ⟨k, n, hk, rfl, rfl, hr⟩ := hrel
    have Hr := Lib.hid hr
    clear hr
    by_cases hlt : k < s.size
    · cases hl : fg s[k] <;> cases hd : sr s[k]
      all_goals
        go_wp2_with (first | (go_at_call 285; refine (ld s[k] _).mono ?_; rintro e w' ⟨rfl, rfl⟩) | (go_at_call 294; refine (tQ s[k] _).mono ?_; rintro e w' ⟨rfl, rfl⟩))
        first
          | (
              have hq := f9 s hlt
              rw [if_pos (by simp [lod, hl, hd])] at hq
              go_roundw
              case rel => exact ⟨k + 1, n, by omega, by go_num, rfl, by have := Hr.out; omega⟩
              case measure => simp [intOf]; omega)
          | (
              have hq := f9 s hlt
              rw [if_neg (by simp [lod, hl, hd])] at hq
              go_ret
              exact ⟨kG (by rw [Hr.out, hq, Nat.add_zero]), n, rfl⟩)
    · go_wp2
      go_ret
      exact ⟨kG (by rw [Hr.out, ot s hlt, Nat.add_zero]), n, rfl⟩

set_option maxHeartbeats 400000 in
theorem yF (s : ByteArray) (at_ : Nat) (w : World) (hs : s.size ≤ 1048576) (ha : at_ ≤ s.size) : Calls Tryz.prog 284 #[.string s, .int .i64 at_] w fun e w' => e = .returned (.int .i64 ((at_ + ef (s.data.toList.drop at_) : Nat) : Int)) ∧ ∃ n, w' = w.drewN n := by
  go_enter Tryz.func284, Tryz.ntmps284
  go_wp2
  go_loopw [1] (fun i wr => ∃ k n : Nat, k ≤ s.size ∧ i = .int .i64 k ∧ wr = w.drewN n ∧ at_ + ef (s.data.toList.drop at_) = k + ef (s.data.toList.drop k)) (fun i _ => s.size - (intOf i).toNat)
  case atStart => exact ⟨at_, 0, ha, rfl, rfl, rfl⟩
  case round =>
    obtain ⟨k, n, hk, rfl, rfl, hr⟩ := hrel
    have Hr := Lib.hid hr
    clear hr
    by_cases hlt : k < s.size
    · cases hl : fg s[k] <;> cases hd : sr s[k]
      all_goals
        go_wp2_with (first | (go_at_call 283; refine (lh s[k] _).mono ?_; rintro e w' ⟨rfl, rfl⟩) | (go_at_call 293; refine (tT s[k] _).mono ?_; rintro e w' ⟨rfl, rfl⟩))
        first
          | (
              have hq := f9 s hlt
              rw [if_pos (by simp [lod, hl, hd])] at hq
              go_roundw
              case rel => exact ⟨k + 1, n, by omega, by go_num, rfl, by have := Hr.out; omega⟩
              case measure => simp [intOf]; omega)
          | (
              have hq := f9 s hlt
              rw [if_neg (by simp [lod, hl, hd])] at hq
              go_ret
              exact ⟨gm (by rw [Hr.out, hq, Nat.add_zero]), n, rfl⟩)
    · go_wp2
      go_ret
      exact ⟨gm (by rw [Hr.out, ot s hlt, Nat.add_zero]), n, rfl⟩

def bO : List UInt8 → Bool
  | [] => false
  | b :: r => decide (r.length < 20) && fg b && r.all lod

theorem ku (l : List UInt8) : ef l = l.length ↔ l.all lod = true := by
  induction l with
  | nil => simp [ef]
  | cons b r ih =>
    have := ml r
    simp only [ef, List.length_cons, List.all_cons, Bool.and_eq_true]
    split
    · rename_i h; rw [h]; simp only [true_and]; rw [← ih]; omega
    · rename_i h; constructor
      · intro h2; omega
      · intro h2; exact absurd h2.1 h

theorem lH {a b : ByteArray} (h : a.data.toList = b.data.toList) : a = b := WideShapes.bytes_inj h
theorem lj (s : ByteArray) (k : Nat) : (s.extract 0 k).data.toList = s.data.toList.take k := by
  rw [Lib.extract_data]; simp

theorem zK (s : ByteArray) : ((s.extract 0 (ef s.data.toList)).toList == s.toList) = s.data.toList.all lod := by
  have h1 := ml s.data.toList
  rw [Lib.toList_data, Lib.toList_data, lj]
  by_cases h : s.data.toList.all lod = true
  · rw [h, (ku _).2 h, List.take_length]; simp
  · rw [Bool.eq_false_iff.2 h, beq_eq_false_iff_ne]
    intro e
    have h2 := congrArg List.length e
    rw [List.length_take] at h2
    exact h ((ku _).1 (by omega))

theorem m7 (s : ByteArray) (h : s.size = 0) : bO s.data.toList = false := by
  have : s.data.toList = [] := List.eq_nil_of_length_eq_zero (by rw [bv]; exact h)
  rw [this]; rfl
theorem ib (s : ByteArray) (h : 0 < s.size) : bO s.data.toList = (decide (s.size ≤ 20) && fg s[0] && s.data.toList.all lod) := by
  have h0 := mQ s h
  rw [List.drop_zero] at h0
  have hl := bv s
  rw [h0] at hl ⊢
  have hd : decide ((List.drop (0 + 1) s.data.toList).length < 20) = decide (s.size ≤ 20) := by
    rw [List.length_cons] at hl
    simp only [decide_eq_decide]; omega
  simp only [bO, hd, List.all_cons]
  by_cases hlt : fg s[0] = true
  · have hx : lod s[0] = true := by simp [lod, hlt]
    rw [hlt, hx]; simp
  · rw [Bool.eq_false_iff.2 hlt]; simp

set_option maxHeartbeats 400000 in
theorem kA (s : ByteArray) (w : World) (hs : s.size ≤ 1048576) : Calls Tryz.prog 264 #[.string s] w fun e w' => e = .returned (.bool (bO s.data.toList)) ∧ ∃ n, w' = w.drewN n := by
  go_enter Tryz.func264, Tryz.ntmps264
  by_cases h1 : 1 ≤ (s.size : Int) ∧ (s.size : Int) ≤ 20
  · have hin := t8 h1
    have h0 : 0 < s.size := by omega
    have hf := ib s h0
    rw [decide_eq_true (by omega : s.size ≤ 20)] at hf
    have Hf := Lib.hid hf
    clear hf
    cases hl : fg s[0]
    all_goals
      go_wp2_with (first | (go_at_call 55; refine (oE _ _ _ _).mono ?_; rintro e w' ⟨rfl, rfl⟩) | (go_at_call 285; refine (ld s[0] _).mono ?_; rintro e w' ⟨rfl, rfl⟩) | (go_at_call 286; refine (xH s _ hs).mono ?_; rintro e w' ⟨rfl, n, rfl⟩))
      go_ret
      first
        | exact ⟨bm (by rw [Hf.out, hl]; rfl), 0, rfl⟩
        | exact ⟨bm (by rw [Hf.out, hl, zK]; rfl), _, rfl⟩
  · have hin := zO h1
    go_wp2_with (first | (go_at_call 55; refine (oE _ _ _ _).mono ?_; rintro e w' ⟨rfl, rfl⟩))
    go_ret
    refine ⟨bm ?_, 0, rfl⟩
    by_cases h0 : s.size = 0
    · rw [m7 s h0]
    · rw [ib s (by omega), decide_eq_false (by omega)]; rfl


def adu (w : World) : Prop := Lib.TabIs Tryz.prog w "internal/strconv.uint64pow10" .u64 Lib.pow10Tab
theorem adu.below {w w' : World} (h : adu w) (hb : Below w.heap.size w w') : adu w' := Lib.tabBelow_of_tabIs h w' hb

def adL (n : Int) : ByteArray := ⟨(Lib.itoa n).toArray⟩

theorem oL : ∀ (k u : Nat), u < 10 ^ (k + 1) → Lib.nDigits u ≤ k + 1
  | 0, u, h => by rw [Lib.nDigits_small (by simpa using h)]; omega
  | k + 1, u, h => by
    by_cases h1 : u < 10
    · rw [Lib.nDigits_small h1]; omega
    · rw [Lib.nDigits_big h1]
      have := oL k (u / 10) (by rw [Nat.pow_succ] at h; omega)
      omega
def pre (u : Nat) : List UInt8 := if u = 0 then [] else Lib.decDigits u
theorem zB {u : Nat} (h : u ≠ 0) : pre u = pre (u / 10) ++ [UInt8.ofNat (48 + u % 10)] := by
  unfold pre
  rw [if_neg h, Lib.decDigits]
  by_cases h1 : u < 10
  · rw [dif_pos h1, if_pos (by omega), Nat.mod_eq_of_lt h1]; rfl
  · rw [dif_neg h1, if_neg (by omega)]
theorem vX {u : Nat} (h : u < 10000000000000000000) : (pre u).length ≤ 19 := by
  unfold pre
  split
  · simp
  · rw [Lib.decDigits_length]; exact oL 18 u (by simpa using h)

theorem zW {n : Int} (hz : n ≠ 0) : adL n = if n < 0 then ⟨(45 :: pre n.natAbs).toArray⟩ else ⟨(pre n.natAbs).toArray⟩ := by
  have h1 : pre n.natAbs = Lib.decDigits n.natAbs := by unfold pre; rw [if_neg (by omega)]
  rw [h1]
  unfold adL Lib.itoa
  by_cases h : n < 0
  · rw [if_pos h, if_pos h]
  · rw [if_neg h, if_neg h, show n.toNat = n.natAbs by omega]
theorem zr (src : TypeId) (e : TypeId) (w : World) (d : Nat) (hd : d < 256) (v : Int) (hv : v = d) (hs : Tryz.prog.underlying src = some (.slice e)) (he : Tryz.prog.underlying e = some (.int .u8)) :
    (convert src 9 (.slice (some ⟨w.heap.size, 0, none⟩) 1 1)).run Tryz.prog (w.alloc (.cells #[.int .u8 v] e)) = .ok (.string ⟨#[UInt8.ofNat d]⟩) (w.alloc (.cells #[.int .u8 v] e)) := by
  subst hv
  refine run_convert_bytes_back (P := Tryz.prog) _ src 9 e ⟨w.heap.size, 0, none⟩ 1 [UInt8.ofNat d] hs he Tryz.underlying9 fun j hj => ?_
  have hj0 : j = 0 := by simp at hj; omega
  subst hj0
  have h := Blk.cell (Blk.new w e #[.int .u8 (d : Int)]) 0
  rw [show (⟨w.heap.size, 0, none⟩ : Addr).add 0 = ⟨w.heap.size, 0, none⟩ from rfl, h]
  show some (Value.int .u8 (d : Int)) = some (.int .u8 ((UInt8.ofNat d).toNat : Int))
  rw [UInt8.toNat_ofNat', Nat.mod_eq_of_lt hd]

def abT : List (List UInt8) := [[99, 108, 97, 115, 115], [101, 120, 116, 101, 110, 100, 115], [102, 105, 101, 108, 100, 115], [109, 101, 116, 104, 111, 100], [99, 108, 97, 115, 115, 109, 101, 116, 104, 111, 100], [101, 110, 100], [109, 97, 105, 110]]
def ops : List (List UInt8) := [[47, 47], [92, 92], [60, 61], [62, 61], [61, 61], [126, 61], [126, 126], [43], [45], [42], [60], [62], [61], [44], [38]]
def gp (l : List UInt8) : Bool := abT.contains l
def kK (l : List UInt8) : Bool := ops.contains l
def cj (l : List UInt8) : Bool := bO l && !gp l

def spl (c : UInt8) : List UInt8 → List (List UInt8)
  | [] => [[]]
  | b :: r => if b = c then [] :: spl c r else (b :: (spl c r).headD []) :: (spl c r).tail

def kwL (l : List UInt8) : Option (List (List UInt8)) :=
  if l.getLast? = some 58 then (if (spl 58 l.dropLast).all bO && decide ((spl 58 l.dropLast).length ≤ 4) then some (spl 58 l.dropLast) else none) else none
def cw (l : List UInt8) : Bool := kK l || cj l || (kwL l).isSome
def bT (l : List UInt8) : Int := if kK l then 1 else if cj l then 0 else match kwL l with | some ps => ps.length | none => -1

theorem oZ (c : UInt8) (l : List UInt8) : spl c l ≠ [] := by
  cases l with
  | nil => simp [spl]
  | cons b r => simp only [spl]; split <;> simp

theorem mc (c : UInt8) (l : List UInt8) : 0 < (spl c l).length := List.length_pos_iff.2 (oZ c l)

theorem lC (c : UInt8) : ∀ l : List UInt8, spl c (l ++ [c]) = spl c l ++ [[]]
  | [] => by simp [spl]
  | b :: r => by
    have h := lC c r
    simp only [List.cons_append, spl]
    split
    · rw [h]; rfl
    · rw [h]
      obtain ⟨x, xs, hx⟩ := List.exists_cons_of_ne_nil (oZ c r)
      rw [hx]; rfl

theorem pi (c : UInt8) : ∀ l : List UInt8, (spl c l).getLast? = some [] → l = [] ∨ l.getLast? = some c
  | [], _ => .inl rfl
  | b :: r, h => by
    simp only [spl] at h
    refine .inr ?_
    obtain ⟨x, xs, hx⟩ := List.exists_cons_of_ne_nil (oZ c r)
    split at h
    · rename_i hb
      subst hb
      rw [hx, List.getLast?_cons_cons, ← hx] at h
      rcases pi b r h with h1 | h1
      · subst h1; rfl
      · cases r with
        | nil => simp at h1
        | cons a t => rw [List.getLast?_cons_cons]; exact h1
    · rw [hx] at h
      cases xs with
      | nil => simp at h
      | cons y ys =>
        simp only [List.headD_cons, List.tail_cons, List.getLast?_cons_cons] at h
        have h2 : (spl c r).getLast? = some [] := by rw [hx, List.getLast?_cons_cons]; exact h
        rcases pi c r h2 with h1 | h1
        · subst h1; simp [spl] at hx
        · cases r with
          | nil => simp at h1
          | cons a t => rw [List.getLast?_cons_cons]; exact h1

theorem ym (c : UInt8) : ∀ l : List UInt8, c ∉ l → spl c l = [l]
  | [], _ => rfl
  | b :: r, h => by
    simp only [List.mem_cons, not_or] at h
    rw [spl, if_neg (fun e => h.1 e.symm), ym c r h.2]; rfl

theorem tE (c : UInt8) : ∀ l : List UInt8, (spl c l).length = 1 → spl c l = [l]
  | [], _ => rfl
  | b :: r, h => by
    have hp := mc c r
    simp only [spl] at h ⊢
    split
    · rename_i hb; rw [if_pos hb] at h; simp only [List.length_cons] at h; omega
    · rename_i hb
      rw [if_neg hb] at h
      simp only [List.length_cons, List.length_tail] at h
      rw [tE c r (by omega)]; rfl

theorem ki (c : UInt8) : ∀ (l p : List UInt8), p ∈ spl c l → p.length ≤ l.length
  | [], p, h => by simp [spl] at h; subst h; simp
  | b :: r, p, h => by
    simp only [spl] at h
    obtain ⟨x, xs, hx⟩ := List.exists_cons_of_ne_nil (oZ c r)
    split at h
    · rcases List.mem_cons.1 h with rfl | h
      · simp
      · have := ki c r p h; simp only [List.length_cons]; omega
    · rw [hx] at h
      simp only [List.headD_cons, List.tail_cons] at h
      rcases List.mem_cons.1 h with rfl | h
      · have := ki c r x (by rw [hx]; simp); simp only [List.length_cons]; omega
      · have := ki c r p (by rw [hx]; simp [h]); simp only [List.length_cons]; omega

theorem kw (c : UInt8) : ∀ l : List UInt8, (spl c l).length ≤ l.length + 1
  | [] => by simp [spl]
  | b :: r => by
    have := kw c r
    have hp := mc c r
    simp only [spl]
    split
    · simp only [List.length_cons]; omega
    · simp only [List.length_cons, List.length_tail]; omega

def aaT (pre : List UInt8) (ps : List (List UInt8)) : List (List UInt8) := (pre ++ ps.headD []) :: ps.tail
theorem vl (c : UInt8) (l : List UInt8) : aaT [] (spl c l) = spl c l := by
  obtain ⟨x, xs, hx⟩ := List.exists_cons_of_ne_nil (oZ c l)
  rw [hx]; rfl
theorem zE (c : UInt8) (pre r : List UInt8) : aaT pre (spl c (c :: r)) = pre :: spl c r := by simp [spl, aaT]
theorem y8 (b c : UInt8) (pre r : List UInt8) (h : b ≠ c) : aaT pre (spl c (b :: r)) = aaT (pre ++ [b]) (spl c r) := by simp [spl, aaT, h]

theorem qs (c : UInt8) (r : List UInt8) : Lib.index (c :: r) [c] = 0 := by
  simp [Lib.index]
theorem pG (b c : UInt8) (r : List UInt8) (h : b ≠ c) : Lib.index (b :: r) [c] = if Lib.index r [c] = -1 then -1 else Lib.index r [c] + 1 := by
  simp [Lib.index, Ne.symm h]
theorem sb (c : UInt8) : ∀ (l : List UInt8), Lib.splitK [c] 0 (l.count c) l = spl c l
  | [] => rfl
  | b :: r => by
    have ih := sb c r
    by_cases hb : b = c
    · subst hb
      rw [List.count_cons_self, Lib.splitK, qs, if_neg (by decide)]
      simp only [spl, if_true]
      simpa using ih
    · rw [List.count_cons_of_ne hb, spl, if_neg hb, ← ih]
      generalize hk : r.count c = k
      cases k with
      | zero => rfl
      | succ k =>
        have hge := Lib.index_ge r [c]
        have hin : Lib.index r [c] ≠ -1 := by
          intro h0
          have := Lib.count_one c r
          rw [Lib.count_miss h0, hk] at this
          omega
        rw [Lib.splitK, Lib.splitK, pG b c r hb, if_neg hin]
        have e1 : (Lib.index r [c] + 1 == -1) = false := by rw [beq_eq_false_iff_ne]; omega
        have e2 : (Lib.index r [c] == -1) = false := by rw [beq_eq_false_iff_ne]; exact hin
        rw [e1, e2]
        obtain ⟨i, hi⟩ := Int.eq_ofNat_of_zero_le (show 0 ≤ Lib.index r [c] by omega)
        rw [hi]
        have e3 : ((i : Int) + 1).toNat = i + 1 := by omega
        simp [e3]

def jf (l : List UInt8) : Bool :=
  if kK l then true else
  if 1 < (spl 58 l).length then (if (spl 58 l).getLast? = some [] then (spl 58 l).dropLast.all bO && decide ((spl 58 l).length - 1 ≤ 4) else false)
  else bO l && !gp l

theorem yR : lod 58 = false := by decide
theorem ka (l : List UInt8) (h : bO l = true) : (58 : UInt8) ∉ l := by
  intro hm
  cases l with
  | nil => simp at hm
  | cons b r =>
    simp only [bO, Bool.and_eq_true, List.all_eq_true] at h
    rcases List.mem_cons.1 hm with e | e
    · subst e
      have : fg 58 = true := h.1.2
      exact absurd this (by decide)
    · have := h.2 58 e
      rw [yR] at this
      cases this

theorem ky (l : List UInt8) : jf l = cw l := by
  unfold jf cw
  by_cases ho : kK l = true
  · rw [if_pos ho, ho]; rfl
  · rw [if_neg ho, Bool.eq_false_iff.2 ho, Bool.false_or]
    by_cases hn : 1 < (spl 58 l).length
    · rw [if_pos hn]
      have hno : cj l = false := by
        rw [Bool.eq_false_iff]
        intro h
        simp only [cj, Bool.and_eq_true] at h
        have := ym 58 l (ka l h.1)
        rw [this] at hn
        simp at hn
      rw [hno, Bool.false_or]
      by_cases hl : l.getLast? = some 58
      · obtain ⟨m, rfl⟩ := List.getLast?_eq_some_iff.1 hl
        simp only [lC, List.getLast?_append, List.getLast?_singleton, Option.some_or, if_true, List.dropLast_concat, List.length_append, List.length_singleton, Nat.add_sub_cancel]
        simp only [kwL, List.getLast?_append, List.getLast?_singleton, Option.some_or, if_true, List.dropLast_concat]
        split
        · rename_i h; rw [h]; rfl
        · rename_i h; rw [Bool.eq_false_iff.2 h]; rfl
      · have h2 : ¬ (spl 58 l).getLast? = some [] := by
          intro h
          rcases pi 58 l h with h1 | h1
          · subst h1; simp [spl] at hn
          · exact hl h1
        rw [if_neg h2]
        simp [kwL, hl]
    · rw [if_neg hn]
      have hone := tE 58 l (by have := mc 58 l; omega)
      have hk : kwL l = none := by
        unfold kwL
        by_cases hl : l.getLast? = some 58
        · obtain ⟨m, rfl⟩ := List.getLast?_eq_some_iff.1 hl
          rw [lC] at hn
          have := mc 58 m
          simp at hn
          exact absurd hn (oZ 58 m)
        · rw [if_neg hl]
      rw [hk]
      simp [cj]

def jU (l : List UInt8) : Int := if jf l then (if kK l then 1 else ((spl 58 l).length : Int) - 1) else -1
theorem uf (l : List UInt8) : jU l = bT l := by
  unfold jU bT
  rw [ky]
  by_cases ho : kK l = true
  · simp [cw, ho]
  · rw [Bool.eq_false_iff.2 ho]
    by_cases hn : cj l = true
    · have := ym 58 l (ka l (by simp only [cj, Bool.and_eq_true] at hn; exact hn.1))
      simp [cw, hn, this]
    · rw [Bool.eq_false_iff.2 hn]
      cases hk : kwL l with
      | none => simp [cw, Bool.eq_false_iff.2 ho, Bool.eq_false_iff.2 hn, hk]
      | some ps =>
        simp only [cw, Bool.eq_false_iff.2 ho, Bool.eq_false_iff.2 hn, hk, Option.isSome_some, Bool.or_true, if_true, Bool.false_eq_true, if_false]
        unfold kwL at hk
        by_cases hl : l.getLast? = some 58
        · obtain ⟨m, rfl⟩ := List.getLast?_eq_some_iff.1 hl
          rw [if_pos hl, List.dropLast_concat] at hk
          split at hk
          · simp only [Option.some.injEq] at hk
            subst hk
            rw [lC]; simp
          · cases hk
        · rw [if_neg hl] at hk; cases hk

def qP (w : World) : Prop := ∃ m : Int, w.cell? ⟨0, 0, none⟩ = some (.int .i64 m)
theorem qP.below {w w' : World} (h : qP w) (hb : Below w.heap.size w w') : qP w' := by
  obtain ⟨m, hm⟩ := h
  exact ⟨m, (hb.cell (World.block_lt_of_cell? w _ hm)).trans hm⟩

theorem Tryz.infoStr : (Tryz.prog.info? 9).map (fun i => (i.zero, i.size, i.bytes)) = some (some (.string ByteArray.empty), 1, 16) := by kernel_rfl

def kH (l : List ByteArray) : List PT := l.map PT.str
theorem tA (l : List ByteArray) : (kH l).length = l.length := by simp [kH]
theorem tt (a b : List ByteArray) : kH (a ++ b) = kH a ++ kH b := by simp [kH]
theorem jh (l : List ByteArray) : PT.cellsL (kH l) = l.map Value.string := by
  induction l with
  | nil => rfl
  | cons z r ih => simp only [kH, List.map_cons, PT.cellsL, PT.cells] at *; rw [ih]; rfl
theorem lb (l : List ByteArray) : PT.blocksL (kH l) = [] := by
  induction l with
  | nil => rfl
  | cons z r ih => simp only [kH, List.map_cons, PT.blocksL, PT.blocks] at *; rw [ih]; rfl
theorem ww (l : List ByteArray) : ∀ t ∈ kH l, t.cells.length = 1 := fun t ht => by
  simp only [kH, List.mem_map] at ht; obtain ⟨z, _, rfl⟩ := ht; rfl
theorem xM (w : World) (l : List ByteArray) : iP w (kH l) := iP.of_get fun t ht => by
  simp only [kH, List.mem_map] at ht; obtain ⟨z, _, rfl⟩ := ht; trivial
theorem dK.str_at {w : World} {S : Nat → Prop} {A : Option Addr} {c : Nat} {l : List ByteArray} (h : dK w S (.sl A c 1 (kH l))) {k : Nat} (hk : k < l.length) :
    ∃ b o, A = some ⟨b, o, none⟩ ∧ S b ∧ w.cell? ⟨b, o + k, none⟩ = some (.string (l[k]'hk)) := by
  have h1 := h.2.2.1
  rw [jh] at h1
  exact h1 k _ (by simp [hk])
theorem eY {w : World} {S : Nat → Prop} (l : List ByteArray) (e : TypeId) (hl : l.length ≤ maxLen) (hS : S w.heap.size) : cr (w.alloc (.cells (l.map Value.string).toArray e)) S (.sl (some ⟨w.heap.size, 0, none⟩) l.length 1 (kH l)) :=
  ⟨eI (ww l) (by rw [jh]; simp [kH]) (heap_alloc_new w _) (by simp [kH]) hl (by simp) (by rw [jh]; simp [kH, List.take_of_length_le]) (xM _ _), by simp [PT.blocks, lb, PT.rowOf],
    by simpa [PT.blocks, lb, PT.rowOf] using hS⟩

def eL : List ByteArray := abT.map fun l => ⟨l.toArray⟩
def oD : List ByteArray := ops.map fun l => ⟨l.toArray⟩

def jv (l : List ByteArray) (s : ByteArray) : Bool := l.any fun x => x.toList == s.toList
theorem kC (s : ByteArray) : jv eL s = gp s.data.toList := by
  rw [Bool.eq_iff_iff]
  simp only [jv, eL, gp, List.any_map, List.any_eq_true, Function.comp, List.contains_iff_mem, beq_iff_eq, Lib.toList_data]
  exact ⟨fun ⟨x, h1, h2⟩ => by rw [← h2]; exact h1, fun h => ⟨_, h, rfl⟩⟩
theorem pL (s : ByteArray) : jv oD s = kK s.data.toList := by
  rw [Bool.eq_iff_iff]
  simp only [jv, oD, kK, List.any_map, List.any_eq_true, Function.comp, List.contains_iff_mem, beq_iff_eq, Lib.toList_data]
  exact ⟨fun ⟨x, h1, h2⟩ => by rw [← h2]; exact h1, fun h => ⟨_, h, rfl⟩⟩

set_option maxHeartbeats 400000 in
theorem vT (s : ByteArray) (w : World) : Calls Tryz.prog 265 #[.string s] w fun e w' => e = .returned (.bool (gp s.data.toList)) ∧ w = w' := by
  have hL := Lib.toList_data s
  have hd : gp s.data.toList = jv eL s := (kC s).symm
  have Hd := Lib.hid hd
  have HL := Lib.hid hL
  clear hd hL
  go_enter Tryz.func265, Tryz.ntmps265
  go_wp2
  all_goals (go_ret; exact ⟨bm (by have := HL.out; simp_all [gp, abT]), rfl⟩)

set_option maxHeartbeats 400000 in
theorem j0 (A : Option Addr) (c : Nat) (l : List ByteArray) (s : ByteArray) (w : World) (S : Nat → Prop) (hs : dK w S (.sl A c 1 (kH l))) (hn : l.length ≤ 1048576) :
    Calls Tryz.prog 202 #[.slice A l.length c, .string s] w fun e w' => e = .returned (.bool (jv l s)) ∧ ∃ n, w' = w.drewN n := by
  go_enter Tryz.func202, Tryz.ntmps202
  go_wp2
  go_loopw [5] (fun i wr => ∃ k n : Nat, k ≤ l.length ∧ i = .int .i64 k ∧ wr = w.drewN n ∧ jv l s = jv (l.drop k) s) (fun i _ => l.length - (intOf i).toNat)
  case atStart => exact ⟨0, 0, Nat.zero_le _, rfl, rfl, rfl⟩
  case round =>
    obtain ⟨k, n, hk, rfl, rfl, hr⟩ := hrel
    have Hr := Lib.hid hr
    clear hr
    by_cases hlt : k < l.length
    · obtain ⟨b, o, rfl, _, hcell⟩ := hs.str_at hlt
      have hd : jv (l.drop k) s = (l[k].toList == s.toList || jv (l.drop (k + 1)) s) := by rw [List.drop_eq_getElem_cons hlt]; rfl
      have Hd := Lib.hid hd
      clear hd hs
      cases hq : l[k].toList == s.toList
      all_goals
        go_wp2
        first
          | (
              go_roundw
              case rel => exact ⟨k + 1, n, by omega, by go_num, rfl, by rw [Hr.out, Hd.out, hq]; rfl⟩
              case measure => simp [intOf]; omega)
          | (
              go_ret
              exact ⟨bm (by rw [Hr.out, Hd.out, hq]; rfl), n, rfl⟩)
    · go_wp2
      go_ret
      exact ⟨bm (by rw [Hr.out, List.drop_eq_nil_of_le (by omega)]; rfl), n, rfl⟩

theorem um (w : World) : Calls Tryz.prog 256 #[] w fun e w' => e = .returned (.slice (some ⟨w.heap.size, 0, none⟩) 7 7) ∧ w.alloc (.cells (eL.map Value.string).toArray 9) = w' := by
  go_enter Tryz.func256, Tryz.ntmps256
  go_wp2
  go_ret
  exact ⟨rfl, rfl⟩
theorem fJ (w : World) : Calls Tryz.prog 257 #[] w fun e w' => e = .returned (.slice (some ⟨w.heap.size, 0, none⟩) 15 15) ∧ w.alloc (.cells (oD.map Value.string).toArray 9) = w' := by
  go_enter Tryz.func257, Tryz.ntmps257
  go_wp2
  go_ret
  exact ⟨rfl, rfl⟩
theorem qL (w : World) : Calls Tryz.prog 268 #[] w fun e w' => e = .returned (.slice (some ⟨w.heap.size, 0, none⟩) 15 15) ∧ w.alloc (.cells (oD.map Value.string).toArray 9) = w' := by
  go_enter Tryz.func268, Tryz.ntmps268
  go_wp2
  go_ret
  exact ⟨rfl, rfl⟩

def dW (s : ByteArray) (l : List ByteArray) : ByteArray := (l.find? fun x => Lib.hasPrefix s.data.toList x.data.toList).getD ByteArray.empty

set_option maxHeartbeats 400000 in
theorem tG (A : Option Addr) (c : Nat) (l : List ByteArray) (s : ByteArray) (w : World) (S : Nat → Prop) (hs : dK w S (.sl A c 1 (kH l))) (hn : l.length ≤ 1048576) :
    Calls Tryz.prog 267 #[.string s, .slice A l.length c] w fun e w' => e = .returned (.string (dW s l)) ∧ ∃ n, w' = w.drewN n := by
  go_enter Tryz.func267, Tryz.ntmps267
  go_wp2
  go_loopw [9] (fun i wr => ∃ k n : Nat, k ≤ l.length ∧ i = .int .i64 k ∧ wr = w.drewN n ∧ dW s l = dW s (l.drop k)) (fun i _ => l.length - (intOf i).toNat)
  case atStart => exact ⟨0, 0, Nat.zero_le _, rfl, rfl, rfl⟩
  case round =>
    obtain ⟨k, n, hk, rfl, rfl, hr⟩ := hrel
    have Hr := Lib.hid hr
    clear hr
    by_cases hlt : k < l.length
    · obtain ⟨b, o, rfl, _, hcell⟩ := hs.str_at hlt
      have hd : dW s (l.drop k) = if Lib.hasPrefix s.data.toList l[k].data.toList then l[k] else dW s (l.drop (k + 1)) := by
        rw [List.drop_eq_getElem_cons hlt]
        simp only [dW, List.find?_cons]
        split <;> simp_all
      have Hd := Lib.hid hd
      clear hd hs
      cases hq : Lib.hasPrefix s.data.toList l[k].data.toList
      all_goals
        go_wp2_with (go_at_call 287; refine (Tryz.strings_HasPrefix _ _ _).mono ?_; rintro e w' ⟨rfl, rfl⟩)
        first
          | (
              go_roundw
              case rel => exact ⟨k + 1, n, by omega, by go_num, rfl, by rw [Hr.out, Hd.out, hq]; rfl⟩
              case measure => simp [intOf]; omega)
          | (
              go_ret
              exact ⟨kG (by rw [Hr.out, Hd.out, hq]; rfl), n, rfl⟩)
    · go_wp2
      go_ret
      exact ⟨kG (by rw [Hr.out, List.drop_eq_nil_of_le (by omega)]; rfl), n, rfl⟩

theorem sv (s : ByteArray) (l : List ByteArray) (h : dW s l = s) (hs : s.data.toList ≠ []) : s ∈ l := by
  unfold dW at h
  cases hf : l.find? (fun x => Lib.hasPrefix s.data.toList x.data.toList) with
  | none => rw [hf] at h; simp only [Option.getD_none] at h; rw [← h] at hs; exact absurd rfl hs
  | some x => rw [hf] at h; simp only [Option.getD_some] at h; subst h; exact List.mem_of_find?_eq_some hf
theorem q7 : ∀ l ∈ oD, ((dW l oD).toList == l.toList) = true ∧ l.toList ≠ [] := by decide +kernel
theorem abR (s : ByteArray) : (!s.toList.isEmpty && (dW s oD).toList == s.toList) = kK s.data.toList := by
  rw [← pL, Bool.eq_iff_iff]
  constructor
  · intro h
    simp only [Bool.and_eq_true, Bool.not_eq_true', beq_iff_eq] at h
    have h1 : dW s oD = s := lH (by rw [← Lib.toList_data, ← Lib.toList_data]; exact h.2)
    have h2 : s ∈ oD := sv s oD h1 (by intro e; rw [← Lib.toList_data] at e; rw [e] at h; simp at h)
    simp only [jv, List.any_eq_true]
    exact ⟨s, h2, by simp⟩
  · intro h
    simp only [jv, List.any_eq_true] at h
    obtain ⟨x, hx, he⟩ := h
    have e : x = s := lH (by rw [← Lib.toList_data, ← Lib.toList_data]; exact beq_iff_eq.1 he)
    subst e
    obtain ⟨h1, h2⟩ := q7 x hx
    rw [h1]
    cases hx : x.toList with
    | nil => exact absurd hx h2
    | cons => rfl

set_option maxHeartbeats 400000 in
theorem ca (s : ByteArray) (w : World) : Calls Tryz.prog 213 #[.string s] w fun e w' => e = .returned (.bool (kK s.data.toList)) ∧ Below w.heap.size w w' := by
  have Hq := Lib.hid (abR s)
  cases hn : s.toList.isEmpty
  all_goals
    go_enter Tryz.func213, Tryz.ntmps213
    go_wp2_with (first
      | (go_at_call 268; refine (qL _).mono ?_; rintro e w' ⟨rfl, rfl⟩)
      | (go_at_call 267; refine (tG _ 15 oD s _ (fun _ => True) (eY oD _ (by decide) trivial).seen (by decide)).mono ?_; rintro e w' ⟨rfl, n, rfl⟩))
    go_ret
    first
      | exact ⟨bm (by rw [← Hq.out, hn]; rfl), Below.refl _ _⟩
      | exact ⟨bm (by rw [← Hq.out, hn]; rfl), aU ((Below.refl _ _).alloc (Nat.le_refl _) _) _⟩

set_option maxHeartbeats 400000 in
theorem ei (s : ByteArray) (w : World) (hs : s.size ≤ 1048576) : Calls Tryz.prog 211 #[.string s] w fun e w' => e = .returned (.bool (cj s.data.toList)) ∧ ∃ n, w' = w.drewN n := by
  cases hp : bO s.data.toList
  all_goals
    go_enter Tryz.func211, Tryz.ntmps211
    go_wp2_with (first
      | (go_at_call 264; refine (kA s _ hs).mono ?_; rintro e w' ⟨rfl, n, rfl⟩)
      | (go_at_call 265; refine (vT s _).mono ?_; rintro e w' ⟨rfl, rfl⟩))
    go_ret
    exact ⟨bm (by rw [cj, hp]; simp), n, rfl⟩

set_option maxHeartbeats 400000 in
theorem eM (s : ByteArray) (w : World) (hs : s.size ≤ 1048576) : Calls Tryz.prog 255 #[.string s] w fun e w' => e = .returned (.bool (bO s.data.toList)) ∧ ∃ n, w' = w.drewN n := by
  by_cases h1 : 1 ≤ (s.size : Int)
  · have h0 : 0 < s.size := by omega
    have Hf := Lib.hid (ib s h0)
    have Hr := Lib.hid (ku s.data.toList)
    have hr : ef s.data.toList ≤ s.size := by have := ml s.data.toList; rw [bv] at this; exact this
    by_cases h2 : (s.size : Int) ≤ 20
    all_goals cases hl : fg s[0]
    all_goals
      go_enter Tryz.func255, Tryz.ntmps255
      go_wp2_with (first
        | (go_at_call 283; refine (lh s[0] _).mono ?_; rintro e w' ⟨rfl, rfl⟩)
        | (go_at_call 284; refine (yF s 0 _ hs (by omega)).mono ?_; rintro e w' ⟨rfl, n, rfl⟩))
      go_ret
      first
        | exact ⟨bm (by rw [Hf.out, hl, decide_eq_false (by omega)]; rfl), 0, rfl⟩
        | exact ⟨bm (by rw [Hf.out, hl]; simp), 0, rfl⟩
        | (
            refine ⟨bm ?_, n, rfl⟩
            rw [Hf.out, hl, decide_eq_true (show s.size ≤ 20 by omega)]
            have hx := Hr.out
            rw [bv] at hx
            rw [Bool.eq_iff_iff]
            simp only [Bool.true_and, ← hx]
            simp
            try omega)
  · go_enter Tryz.func255, Tryz.ntmps255
    go_wp2
    go_ret
    exact ⟨bm (m7 s (by omega)).symm, 0, rfl⟩

theorem fM {ops : Array Oper} {rest : List Oper} {o : Oper} {a : Act} {Q : Exit → Act → World → Prop} {w : World} (hgd : o.guard = none) (s x : Operand)
    (ho : o.op = .call { callee := .builtin .append, args := #[s, x], argTypes := #[34, 34] }) {S : Nat → Prop} (A : Option Addr) (c n : Nat) (l : List ByteArray) (v : ByteArray)
    (hs : a.eval s = .slice A n c) (hx : a.eval x = .slice (some ⟨w.heap.size, 0, none⟩) 1 1) (hown : cr w S (.sl A c 1 (kH l))) (hn : n = l.length) (hS : S (w.heap.size + 1)) (hl : n ≤ 1000000000)
    (h : ∀ A' c' w', cr w' S (.sl A' c' 1 (kH (l ++ [v]))) → dB (· ∈ PT.rowOf A) w w' → (∀ g, A = some ⟨g, 0, none⟩ → ∃ g', A' = some ⟨g', 0, none⟩) → wpList Tryz.prog ops Q rest (a.put o.dst (.slice A' (n + 1) c')) w') :
    wpList Tryz.prog ops Q (o :: rest) a (w.alloc (.cells #[.string v] 9)) :=
  kz hgd s x 34 9 (.string ByteArray.empty) 1 16 ho Tryz.underlying34 Tryz.infoStr rfl (by omega) A c n (kH l) (.str v) hs hx hown (by rw [tA]; exact hn) rfl trivial rfl hS hl (by omega)
    fun A' c' w' h1 h2 h3 => h A' c' w' (by rw [tt]; exact h1) h2 h3

set_option maxHeartbeats 800000 in
theorem kd (s : ByteArray) (b : UInt8) (w : World) (hs : s.size ≤ 1048576) : Calls Tryz.prog 258 #[.string s, .int .u8 (b.toNat : Int)] w fun e w' => ∃ (ps : List ByteArray) (g c : Nat), ps.map (·.data.toList) = spl b s.data.toList ∧ e = .returned (.slice (some ⟨g, 0, none⟩) ps.length c) ∧ Below w.heap.size w w' ∧ cr w' (w.heap.size ≤ ·) (.sl (some ⟨g, 0, none⟩) c 1 (kH ps)) := by
  go_enter Tryz.func258, Tryz.ntmps258
  go_wp2
  go_loopw [5, 6, 7] (fun ov fv iv wr => ∃ (k f m g c : Nat) (ps : List ByteArray), k ≤ s.size + 1 ∧ iv = .int .i64 k ∧ fv = .int .i64 f ∧ f ≤ k ∧ m ≤ k ∧ ps.length = m ∧ ov = .slice (some ⟨g, 0, none⟩) m c ∧ Below w.heap.size w wr ∧ cr wr (w.heap.size ≤ ·) (.sl (some ⟨g, 0, none⟩) c 1 (kH ps)) ∧
    (if k ≤ s.size then ps.map (·.data.toList) ++ aaT ((s.data.toList.take k).drop f) (spl b (s.data.toList.drop k)) else ps.map (·.data.toList)) = spl b s.data.toList) (fun _ _ iv _ => s.size + 1 - (intOf iv).toNat)
  case atStart => exact ⟨0, 0, 0, _, _, [], Nat.zero_le _, rfl, rfl, Nat.le_refl _, Nat.le_refl _, rfl, rfl, (Below.refl _ _).alloc (Nat.le_refl _) _, wG _ _ (Nat.le_refl _), by simp [vl]⟩
  case round =>
    obtain ⟨k, f, m, g, c, ps, hk, rfl, rfl, hf, hm, hl, rfl, hb, ho, hr⟩ := hrel
    have Hr := Lib.hid hr
    have Hl := Lib.hid hl
    clear hr hl
    have hg : w.heap.size ≤ g := ho.2.2 g (by simp [PT.blocks, PT.rowOf])
    have hsz := hb.size
    by_cases hlt : k ≤ s.size
    · by_cases hend : k = s.size
      · have he : ((k : Int) == (s.size : Int)) = true := by simp [hend]
        have Hend := Lib.hid hend
        clear hend
        go_wp2_with (at_builtin; refine fM rfl (.tmp 26) (.tmp 31) rfl (S := (w.heap.size ≤ ·)) (some ⟨g, 0, none⟩) c m ps (s.extract f k) rfl rfl ho Hl.out.symm (by omega) (by omega) ?_; intro A5 c5 w5 ho5 ht5 hA5)
        obtain ⟨g5, rfl⟩ := hA5 g rfl
        have hb5 := hb.trans (ht5.below (B := w.heap.size) hb.size (fun b h => by simp [PT.rowOf] at h; omega))
        clear ho hb ht5
        go_roundw
        case rel =>
          refine ⟨k + 1, k + 1, m + 1, g5, c5, ps ++ [s.extract f k], by omega, by go_num, by go_num, Nat.le_refl _, by omega, by simp [Hl.out], rfl, hb5, ho5, ?_⟩
          have h1 := Hr.out
          have h2 := Hend.out
          rw [if_pos hlt] at h1
          have h5 : s.data.toList.drop s.size = [] := List.drop_eq_nil_of_le (by rw [bv]; omega)
          rw [if_neg (by omega), ← h1, h2, h5]
          simp only [spl, aaT, List.headD_cons, List.append_nil, List.tail_cons, List.map_append, List.map_cons, List.map_nil]
          rw [Lib.extract_data, ← List.drop_take]
        case measure => simp [intOf]; omega
      · have he : ((k : Int) == (s.size : Int)) = false := by simp; omega
        have hks : k < s.size := by omega
        have hdr := mQ s hks
        have Hdr := Lib.hid hdr
        clear hdr
        cases hq : ((s[k].toNat : Int) == (b.toNat : Int))
        · go_wp2
          go_roundw
          case rel =>
            refine ⟨k + 1, f, m, g, c, ps, by omega, by go_num, rfl, by omega, by omega, Hl.out, rfl, hb, ho, ?_⟩
            have h1 := Hr.out
            rw [if_pos hlt, Hdr.out, y8 _ _ _ _ (fun e => by simp [e] at hq)] at h1
            rw [if_pos (by omega), ← h1]
            have h3 : (s.data.toList.take (k + 1)).drop f = (s.data.toList.take k).drop f ++ [s[k]] := by
              rw [List.take_add_one, List.getElem?_eq_getElem (by rw [bv]; exact hks), List.drop_append_of_le_length (by rw [List.length_take, bv]; omega)]
              rfl
            rw [h3]
          case measure => simp [intOf]; omega
        · go_wp2_with (at_builtin; refine fM rfl (.tmp 26) (.tmp 31) rfl (S := (w.heap.size ≤ ·)) (some ⟨g, 0, none⟩) c m ps (s.extract f k) rfl rfl ho Hl.out.symm (by omega) (by omega) ?_; intro A5 c5 w5 ho5 ht5 hA5)
          obtain ⟨g5, rfl⟩ := hA5 g rfl
          have hb5 := hb.trans (ht5.below (B := w.heap.size) hb.size (fun b h => by simp [PT.rowOf] at h; omega))
          clear ho hb ht5
          go_roundw
          case rel =>
            refine ⟨k + 1, k + 1, m + 1, g5, c5, ps ++ [s.extract f k], by omega, by go_num, by go_num, Nat.le_refl _, by omega, by simp [Hl.out], rfl, hb5, ho5, ?_⟩
            have h1 := Hr.out
            have hbb : s[k] = b := by
              have : (s[k].toNat : Int) = (b.toNat : Int) := beq_iff_eq.1 hq
              exact UInt8.toNat_inj.1 (by omega)
            rw [if_pos hlt, Hdr.out, hbb, zE] at h1
            have h4 : ((s.data.toList.take (k + 1)).drop (k + 1)) = [] := List.drop_eq_nil_of_le (by rw [List.length_take]; omega)
            rw [if_pos (by omega), h4, vl, ← h1]
            simp only [List.map_append, List.map_cons, List.map_nil, List.append_assoc, List.singleton_append]
            rw [Lib.extract_data, ← List.drop_take]
          case measure => simp [intOf]; omega
    · go_wp2
      go_ret
      refine ⟨ps, g, c, ?_, by rw [Hl.out]; rfl, hb, ho⟩
      have := Hr.out
      rw [if_neg hlt] at this
      exact this


def abV (l : List UInt8) (w w' : World) (e : Ending) : Prop :=
  Below w.heap.size w w' ∧ match kwL l with
    | some ps => ∃ b o c, e = .returned (.slice (some ⟨b, o, none⟩) ps.length c)
    | none => e = .returned (.slice none 0 0)

theorem sh (s : ByteArray) : Lib.hasSuffix s.data.toList [58] = decide (s.data.toList.getLast? = some 58) := by
  rw [Bool.eq_iff_iff, decide_eq_true_iff]
  simp only [Lib.hasSuffix, List.isSuffixOf_iff_suffix, List.getLast?_eq_some_iff]
  exact ⟨fun ⟨t, h⟩ => ⟨t, h.symm⟩, fun ⟨t, h⟩ => ⟨t, h.symm⟩⟩

set_option maxHeartbeats 800000 in
theorem mD (s : ByteArray) (w : World) (hs : s.size ≤ 1048576) (hm : qP w) : Calls Tryz.prog 214 #[.string s] w fun e w' => abV s.data.toList w w' e := by
  have hsuf := sh s
  cases hc : Lib.hasSuffix s.data.toList [58]
  · have hk : kwL s.data.toList = none := by
      rw [hsuf, decide_eq_false_iff_not] at hc
      unfold kwL; rw [if_neg hc]
    clear hsuf
    have Hk := Lib.hid hk
    clear hk
    go_enter Tryz.func214, Tryz.ntmps214
    go_wp2_with (go_at_call 269; refine (Tryz.strings_HasSuffix _ _ _ (by omega)).mono ?_; rintro e w' ⟨rfl, hw⟩; obtain rfl := hw.symm)
    go_ret
    exact ⟨Below.refl _ _, by rw [Hk.out]; rfl⟩
  · have hl : s.data.toList.getLast? = some 58 := by rw [hsuf, decide_eq_true_iff] at hc; exact hc
    have hpos : 0 < s.size := by
      rw [← bv]
      cases hx : s.data.toList with
      | nil => rw [hx] at hl; cases hl
      | cons => simp
    have Hl := Lib.hid hl
    clear hsuf hl
    have hsz1 : (1 : Int) ≤ s.size := by omega
    have hst : (s.extract 0 (s.size - 1)).data.toList = s.data.toList.dropLast := by
      rw [lj, List.dropLast_eq_take, bv]
    have hs1 : (s.extract 0 (s.size - 1)).size ≤ 1048576 := by rw [ByteArray.size_extract]; omega
    obtain ⟨mm, hmm⟩ := hm
    have hspl : (Lib.splitB ⟨#[58]⟩ 0 (Lib.countB (s.extract 0 (s.size - 1)) ⟨#[58]⟩) (s.extract 0 (s.size - 1))).map (·.data.toList) = spl 58 s.data.toList.dropLast := by
      rw [Lib.splitB_data, hst]
      have h1 : Lib.countB (s.extract 0 (s.size - 1)) ⟨#[58]⟩ = s.data.toList.dropLast.count 58 := by
        rw [← hst]; exact Lib.count_one 58 _
      rw [h1]
      exact sb 58 _
    have Hst := Lib.hid hst
    have Hspl := Lib.hid hspl
    clear hst hspl
    have hlen : Lib.countB (s.extract 0 (s.size - 1)) ⟨#[58]⟩ + 1 = (Lib.splitB ⟨#[58]⟩ 0 (Lib.countB (s.extract 0 (s.size - 1)) ⟨#[58]⟩) (s.extract 0 (s.size - 1))).length := (Lib.splitB_all ⟨#[58]⟩ (by decide) 0 _ _ rfl).symm
    have hcle := Lib.countB_le ⟨#[58]⟩ (by decide) (s.extract 0 (s.size - 1)).size _ (Nat.le_refl _)
    have hpl : (Lib.splitB ⟨#[58]⟩ 0 (Lib.countB (s.extract 0 (s.size - 1)) ⟨#[58]⟩) (s.extract 0 (s.size - 1))).length ≤ 1048576 := by
      rw [← hlen]; rw [ByteArray.size_extract] at hcle; omega
    have hpsz : ∀ p ∈ (Lib.splitB ⟨#[58]⟩ 0 (Lib.countB (s.extract 0 (s.size - 1)) ⟨#[58]⟩) (s.extract 0 (s.size - 1))), p.size ≤ 1048576 := by
      intro p hp
      have h1 : p.data.toList ∈ spl 58 s.data.toList.dropLast := by rw [← Hspl.out]; exact List.mem_map_of_mem (f := (·.data.toList)) hp
      have h2 := ki 58 _ _ h1
      rw [bv, List.length_dropLast, bv] at h2
      omega
    generalize hps : Lib.splitB ⟨#[58]⟩ 0 (Lib.countB (s.extract 0 (s.size - 1)) ⟨#[58]⟩) (s.extract 0 (s.size - 1)) = ps at Hspl
    go_enter Tryz.func214, Tryz.ntmps214
    go_wp2_with (go_at_call 269; refine (Tryz.strings_HasSuffix _ _ _ (by omega)).mono ?_; rintro e w' ⟨rfl, hw⟩; obtain rfl := hw.symm)
    refine (Tryz.strings_Split (s.extract 0 (s.size - 1)) ⟨#[58]⟩ mm _ (by omega) hmm (by decide)).mono ?_
    rintro e w' ⟨rfl, rfl⟩
    rw [hps]
    rw [hps] at hlen hpl hpsz
    rw [hlen]
    have hP := Lib.hid hpsz
    clear hps hlen hpsz hcle
    have hown := eY (w := w) (S := (w.heap.size ≤ ·)) ps 9 (by simp only [maxLen]; omega) (Nat.le_refl _)
    have hb1 : Below w.heap.size w (w.alloc (.cells (ps.map Value.string).toArray 9)) := (Below.refl _ _).alloc (Nat.le_refl _) _
    generalize w.alloc (.cells (ps.map Value.string).toArray 9) = w1 at hown hb1
    have hsee := hown.seen
    clear hmm hown
    go_wp2_with fail
    have hkw : kwL s.data.toList = if (ps.all fun p => bO p.data.toList) && decide (ps.length ≤ 4) then some (spl 58 s.data.toList.dropLast) else none := by
      unfold kwL
      rw [if_pos Hl.out, ← Hspl.out, List.length_map, List.all_map]; rfl
    have hpl2 : (spl 58 s.data.toList.dropLast).length = ps.length := by rw [← Hspl.out, List.length_map]
    have Hkw := Lib.hid hkw
    have Hpl2 := Lib.hid hpl2
    clear hkw hpl2 hc hpos hsz1 hs1
    go_loopw [17] (fun i wr => ∃ k n : Nat, k ≤ ps.length ∧ i = .int .i64 k ∧ wr = w1.drewN n ∧ (ps.all fun p => bO p.data.toList) = (ps.drop k).all fun p => bO p.data.toList) (fun i _ => ps.length - (intOf i).toNat)
    case atStart => exact ⟨0, 0, Nat.zero_le _, rfl, rfl, rfl⟩
    case round =>
      obtain ⟨k, n, hk, rfl, rfl, hr⟩ := hrel
      have Hr := Lib.hid hr
      clear hr
      by_cases hlt : k < ps.length
      · obtain ⟨b, o, hA, _, hcell⟩ := hsee.str_at hlt
        simp only [Option.some.injEq, Addr.mk.injEq, and_true] at hA
        obtain ⟨rfl, rfl⟩ := hA
        rw [Nat.zero_add] at hcell
        have hsp := hP.out ps[k] (List.getElem_mem hlt)
        have hdr := List.drop_eq_getElem_cons hlt
        have Hdr := Lib.hid hdr
        clear hdr
        cases hq : bO ps[k].data.toList
        · go_wp2_with (go_at_call 264; refine (kA ps[k] _ hsp).mono ?_; rintro e w' ⟨rfl, m, rfl⟩)
          go_ret
          refine ⟨aU hb1 _, ?_⟩
          rw [Hkw.out, Hr.out, Hdr.out, List.all_cons, hq]
          rfl
        · go_wp2_with (go_at_call 264; refine (kA ps[k] _ hsp).mono ?_; rintro e w' ⟨rfl, m, rfl⟩)
          go_roundw
          case rel => exact ⟨k + 1, _, by omega, by go_num, rfl, by rw [Hr.out, Hdr.out, List.all_cons, hq]; rfl⟩
          case measure => simp [intOf]; omega
      · have hall : (ps.all fun p => bO p.data.toList) = true := by rw [Hr.out, List.drop_eq_nil_of_le (by omega)]; rfl
        have Hall := Lib.hid hall
        clear hall
        by_cases h4 : (ps.length : Int) ≤ 4
        · go_wp2
          go_ret
          refine ⟨aU hb1 _, ?_⟩
          rw [Hkw.out, Hall.out, decide_eq_true (by omega)]
          exact ⟨_, _, _, by rw [Hpl2.out]; rfl⟩
        · go_wp2
          go_ret
          refine ⟨aU hb1 _, ?_⟩
          rw [Hkw.out, Hall.out, decide_eq_false (by omega)]
          rfl

theorem kM (s : ByteArray) (w : World) (hs : s.size ≤ 1048576) (hm : qP w) (hk : kwL s.data.toList = none) : Calls Tryz.prog 214 #[.string s] w fun e w' => e = .returned (.slice none 0 0) ∧ Below w.heap.size w w' :=
  (mD s w hs hm).mono fun e w' ⟨hb, h⟩ => by rw [hk] at h; exact ⟨h, hb⟩
theorem il (s : ByteArray) (w : World) (hs : s.size ≤ 1048576) (hm : qP w) (ps : List (List UInt8)) (hk : kwL s.data.toList = some ps) : Calls Tryz.prog 214 #[.string s] w fun e w' => ∃ b o c, e = .returned (.slice (some ⟨b, o, none⟩) ps.length c) ∧ Below w.heap.size w w' :=
  (mD s w hs hm).mono fun e w' ⟨hb, h⟩ => by rw [hk] at h; obtain ⟨b, o, c, h⟩ := h; exact ⟨b, o, c, h, hb⟩

set_option maxHeartbeats 800000 in
theorem nL (s : ByteArray) (w : World) (hs : s.size ≤ 1048576) (hm : qP w) : Calls Tryz.prog 135 #[.string s] w fun e w' => e = .returned (.bool (cw s.data.toList)) ∧ Below w.heap.size w w' := by
  cases ho : kK s.data.toList
  · cases hn : cj s.data.toList
    · cases hk : kwL s.data.toList with
      | none =>
        have Hk := Lib.hid hk
        clear hk
        go_enter Tryz.func135, Tryz.ntmps135
        go_wp2_with (first
          | (go_at_call 213; refine (ca s _).mono ?_; rintro e w1 ⟨rfl, hb1⟩)
          | (go_at_call 211; refine (ei s _ hs).mono ?_; rintro e w2 ⟨rfl, n2, rfl⟩)
          | (go_at_call 214; refine (kM s _ hs (qP.below (w := w1) (hm.below hb1) (aU (Below.refl _ _) _)) Hk.out).mono ?_; rintro e w3 ⟨rfl, hb3⟩))
        go_ret
        exact ⟨bm (by rw [cw, ho, hn, Hk.out]; rfl), (aU hb1 _).trans (hb3.mono hb1.size)⟩
      | some ps =>
        have Hk := Lib.hid hk
        clear hk
        go_enter Tryz.func135, Tryz.ntmps135
        go_wp2_with (first
          | (go_at_call 213; refine (ca s _).mono ?_; rintro e w1 ⟨rfl, hb1⟩)
          | (go_at_call 211; refine (ei s _ hs).mono ?_; rintro e w2 ⟨rfl, n2, rfl⟩)
          | (go_at_call 214; refine (il s _ hs (qP.below (w := w1) (hm.below hb1) (aU (Below.refl _ _) _)) ps Hk.out).mono ?_; rintro e w3 ⟨b, o, c, rfl, hb3⟩))
        go_ret
        exact ⟨bm (by rw [cw, ho, hn, Hk.out]; rfl), (aU hb1 _).trans (hb3.mono hb1.size)⟩
    · go_enter Tryz.func135, Tryz.ntmps135
      go_wp2_with (first
        | (go_at_call 213; refine (ca s _).mono ?_; rintro e w1 ⟨rfl, hb1⟩)
        | (go_at_call 211; refine (ei s _ hs).mono ?_; rintro e w2 ⟨rfl, n2, rfl⟩))
      go_ret
      exact ⟨bm (by rw [cw, ho, hn]; rfl), aU hb1 _⟩
  · go_enter Tryz.func135, Tryz.ntmps135
    go_wp2_with (go_at_call 213; refine (ca s _).mono ?_; rintro e w1 ⟨rfl, hb1⟩)
    go_ret
    exact ⟨bm (by rw [cw, ho]; rfl), hb1⟩

set_option maxHeartbeats 800000 in
theorem qI (s : ByteArray) (w : World) (hs : s.size ≤ 1048576) (hm : qP w) : Calls Tryz.prog 136 #[.string s] w fun e w' => e = .returned (.int .i64 (bT s.data.toList)) ∧ Below w.heap.size w w' := by
  cases ho : kK s.data.toList
  · cases hn : cj s.data.toList
    · cases hk : kwL s.data.toList with
      | none =>
        have Hk := Lib.hid hk
        clear hk
        go_enter Tryz.func136, Tryz.ntmps136
        go_wp2_with (first
          | (go_at_call 213; refine (ca s _).mono ?_; rintro e w1 ⟨rfl, hb1⟩)
          | (go_at_call 211; refine (ei s _ hs).mono ?_; rintro e w2 ⟨rfl, n2, rfl⟩)
          | (go_at_call 214; refine (kM s _ hs (qP.below (w := w1) (hm.below hb1) (aU (Below.refl _ _) _)) Hk.out).mono ?_; rintro e w3 ⟨rfl, hb3⟩))
        go_ret
        exact ⟨gm (by rw [bT, ho, hn, Hk.out]; rfl), (aU hb1 _).trans (hb3.mono hb1.size)⟩
      | some ps =>
        have Hk := Lib.hid hk
        clear hk
        go_enter Tryz.func136, Tryz.ntmps136
        go_wp2_with fail
        refine (ca s _).mono ?_
        rintro e w1 ⟨rfl, hb1⟩
        go_wp2_with fail
        refine (ei s _ hs).mono ?_
        rintro e w2 ⟨rfl, n2, rfl⟩
        have hm2 : qP (w1.drewN n2) := qP.below (w := w1) (hm.below hb1) (aU (Below.refl _ _) _)
        go_wp2_with fail
        refine (il s _ hs hm2 ps Hk.out).mono ?_
        rintro e w3 ⟨b, o, c, rfl, hb3⟩
        have hm3 := hm2.below hb3
        go_wp2_with fail
        refine (il s _ hs hm3 ps Hk.out).mono ?_
        rintro e w4 ⟨b4, o4, c4, rfl, hb4⟩
        go_wp2_with fail
        go_ret
        exact ⟨gm (by rw [bT, ho, hn, Hk.out]; rfl), ((aU hb1 _).trans (hb3.mono hb1.size)).trans (hb4.mono (Nat.le_trans hb1.size hb3.size))⟩
    · go_enter Tryz.func136, Tryz.ntmps136
      go_wp2_with (first
        | (go_at_call 213; refine (ca s _).mono ?_; rintro e w1 ⟨rfl, hb1⟩)
        | (go_at_call 211; refine (ei s _ hs).mono ?_; rintro e w2 ⟨rfl, n2, rfl⟩))
      go_ret
      exact ⟨gm (by rw [bT, ho, hn]; rfl), aU hb1 _⟩
  · go_enter Tryz.func136, Tryz.ntmps136
    go_wp2_with (go_at_call 213; refine (ca s _).mono ?_; rintro e w1 ⟨rfl, hb1⟩)
    go_ret
    exact ⟨gm (by rw [bT, ho]; rfl), hb1⟩


set_option maxHeartbeats 800000 in
theorem dT (s : ByteArray) (w : World) (hs : s.size ≤ 1048576) : Calls Tryz.prog 203 #[.string s] w fun e w' => e = .returned (.bool (cw s.data.toList)) ∧ Below w.heap.size w w' := by
  have Hsel := Lib.hid (ky s.data.toList)
  have Hops := Lib.hid (pL s)
  have Hwords := Lib.hid (kC s)
  go_enter Tryz.func203, Tryz.ntmps203
  cases ho : jv oD s
  · go_wp2_with fail
    refine (fJ _).mono ?_
    rintro e w1 ⟨rfl, rfl⟩
    go_wp2_with fail
    refine (j0 _ 15 oD s _ (fun _ => True) (eY oD _ (by decide) trivial).seen (by decide)).mono ?_
    rintro e w1 ⟨rfl, hq⟩
    have hb1 : Below w.heap.size w w1 := by
      obtain ⟨n, rfl⟩ := hq
      exact aU ((Below.refl _ _).alloc (Nat.le_refl _) _) _
    clear hq
    go_wp2_with fail
    refine (kd s 58 w1 hs).mono ?_
    rintro e w2 ⟨ps, g, c, hps, rfl, hb2, how⟩
    have hB := hb1.trans (hb2.mono hb1.size)
    have hsee := how.seen
    have hlen : ps.length = (spl 58 s.data.toList).length := by rw [← hps, List.length_map]
    have hpos := mc 58 s.data.toList
    rw [← hlen] at hpos
    have Hps := Lib.hid hps
    have Hlen := Lib.hid hlen
    clear hps hlen how hb1 hb2
    have hle : ps.length ≤ 1048577 := by
      have := kw 58 s.data.toList
      rw [bv] at this
      have := Hlen.out
      omega
    have hcap : ps.length ≤ c := by simpa [kH] using hsee.1
    have hP : Hid (∀ p ∈ ps, p.size ≤ 1048576) := fun p hp => by
      have h1 : p.data.toList ∈ spl 58 s.data.toList := by rw [← Hps.out]; exact List.mem_map_of_mem (f := (·.data.toList)) hp
      have h2 := ki 58 _ _ h1
      rw [bv, bv] at h2
      omega
    have hspec : jf s.data.toList = if 1 < ps.length then (if (ps.getLast?.map (·.data.toList)) = some [] then ps.dropLast.all (fun p => bO p.data.toList) && decide (ps.length - 1 ≤ 4) else false) else bO s.data.toList && !gp s.data.toList := by
      unfold jf
      rw [← Hops.out, ho, ← Hlen.out, ← Hps.out, List.getLast?_map, ← List.map_dropLast, List.all_map]
      rfl
    have Hspec := Lib.hid hspec
    clear hspec
    by_cases h1 : (1 : Int) < ps.length
    · obtain ⟨b, o, hA, _, hcell⟩ := hsee.str_at (k := ps.length - 1) (by omega)
      simp only [Option.some.injEq, Addr.mk.injEq, and_true] at hA
      obtain ⟨rfl, rfl⟩ := hA
      rw [Nat.zero_add] at hcell
      cases he : (ps[ps.length - 1]).toList.isEmpty
      · have hlast : ¬ (ps.getLast?.map (·.data.toList)) = some [] := by
          rw [List.getLast?_eq_getElem?, List.getElem?_eq_getElem (by omega), Option.map_some, ← Lib.toList_data]
          intro h
          simp only [Option.some.injEq] at h
          rw [h] at he
          cases he
        have Hlast := Lib.hid hlast
        clear hlast
        go_wp2
        go_ret
        exact ⟨bm (by rw [← Hsel.out, Hspec.out, if_pos (by omega), if_neg Hlast.out]), hB⟩
      · have hlast : (ps.getLast?.map (·.data.toList)) = some [] := by
          rw [List.getLast?_eq_getElem?, List.getElem?_eq_getElem (by omega), Option.map_some, ← Lib.toList_data]
          rw [List.isEmpty_iff.1 he]
        have Hlast := Lib.hid hlast
        have hfin : jf s.data.toList = (ps.dropLast.all (fun p => bO p.data.toList) && decide (ps.length - 1 ≤ 4)) := by
          rw [Hspec.out, if_pos (by omega), if_pos hlast]
        have Hfin := Lib.hid hfin
        clear hlast hfin
        have h2 : (1 : Int) ≤ ps.length := by omega
        have h3 : (ps.length : Int) - 1 ≤ c := by omega
        have hn1 : ((ps.length : Int) == 1) = false := by simp; omega
        go_wp2_with fail
        go_loopw [5] (fun i wr => ∃ k n : Nat, k ≤ ps.length - 1 ∧ i = .int .i64 k ∧ wr = w2.drewN n ∧ (ps.dropLast.all fun p => bO p.data.toList) = (ps.dropLast.drop k).all fun p => bO p.data.toList) (fun i _ => ps.length - (intOf i).toNat)
        case atStart => exact ⟨0, 0, Nat.zero_le _, rfl, rfl, rfl⟩
        case round =>
          obtain ⟨k, n, hk, rfl, rfl, hr⟩ := hrel
          have Hr := Lib.hid hr
          clear hr
          by_cases hlt : k < ps.length - 1
          · obtain ⟨b, o, hA, _, hcellk⟩ := hsee.str_at (k := k) (by omega)
            simp only [Option.some.injEq, Addr.mk.injEq, and_true] at hA
            obtain ⟨rfl, rfl⟩ := hA
            rw [Nat.zero_add] at hcellk
            have hsp := hP.out ps[k] (List.getElem_mem (by omega))
            have hdr : ps.dropLast.drop k = ps[k] :: ps.dropLast.drop (k + 1) := by
              rw [List.drop_eq_getElem_cons (by simp; omega), List.getElem_dropLast]
            have Hdr := Lib.hid hdr
            clear hdr
            cases hq : bO ps[k].data.toList
            · go_wp2_with (go_at_call 255; refine (eM ps[k] _ hsp).mono ?_; rintro e w' ⟨rfl, m, rfl⟩)
              go_ret
              exact ⟨bm (by rw [← Hsel.out, Hfin.out, Hr.out, Hdr.out, List.all_cons, hq]; rfl), aU hB _⟩
            · go_wp2_with (go_at_call 255; refine (eM ps[k] _ hsp).mono ?_; rintro e w' ⟨rfl, m, rfl⟩)
              go_roundw
              case rel => exact ⟨k + 1, _, by omega, by go_num, rfl, by rw [Hr.out, Hdr.out, List.all_cons, hq]; rfl⟩
              case measure => simp [intOf]; omega
          · have hall : (ps.dropLast.all fun p => bO p.data.toList) = true := by rw [Hr.out, List.drop_eq_nil_of_le (by simp; omega)]; rfl
            have Hall := Lib.hid hall
            clear hall
            go_wp2
            go_ret
            exact ⟨bm (by rw [← Hsel.out, Hfin.out, Hall.out, Bool.true_and, decide_eq_decide]; omega), aU hB _⟩
    · have hone : ps.length = 1 := by omega
      obtain ⟨p, rfl⟩ := List.length_eq_one_iff.1 hone
      have hp : p = s := by
        have h2 := Hps.out
        have h3 := tE 58 s.data.toList (by rw [← Hlen.out]; rfl)
        rw [h3] at h2
        simp only [List.map_cons, List.map_nil, List.cons.injEq, and_true] at h2
        exact lH h2
      subst hp
      have hfin : jf p.data.toList = (bO p.data.toList && !gp p.data.toList) := by rw [Hspec.out, if_neg (by simp)]
      have Hfin := Lib.hid hfin
      obtain ⟨b, o, hA, _, hcell⟩ := hsee.str_at (k := 0) (by simp)
      simp only [Option.some.injEq, Addr.mk.injEq, and_true, List.getElem_cons_zero] at hA hcell
      obtain ⟨rfl, rfl⟩ := hA
      rw [Nat.zero_add] at hcell
      clear hfin hone h1 hpos hle
      go_wp2_with fail
      go_loopw [5] (fun i wr => ∃ k : Nat, k ≤ 1 ∧ i = .int .i64 k ∧ Below w.heap.size w wr ∧ wr.cell? ⟨g, 0, none⟩ = some (.string p) ∧ (k = 0 ∨ cj p.data.toList = true)) (fun i _ => 1 - (intOf i).toNat)
      case atStart => exact ⟨0, by omega, rfl, hB, hcell, .inl rfl⟩
      case round =>
        obtain ⟨k, hk, rfl, hbr, hc, hr⟩ := hrel
        by_cases hlt : k < 1
        · obtain rfl : k = 0 := by omega
          have hgr : g < wr.heap.size := World.block_lt_of_cell? wr _ hc
          clear hr
          cases hq : bO p.data.toList
          · go_wp2_with (go_at_call 255; refine (eM p _ hs).mono ?_; rintro e w' ⟨rfl, m, rfl⟩)
            go_ret
            exact ⟨bm (by rw [← Hsel.out, Hfin.out, hq]; rfl), aU hbr _⟩
          · go_wp2_with fail
            refine (eM p _ hs).mono ?_
            rintro e w3 ⟨rfl, hq3⟩
            have hb3 := sN hq3
            have hbr3 := hbr.trans (hb3.mono hbr.size)
            have hc3 := (hb3.cell (p := ⟨g, 0, none⟩) hgr).trans hc
            clear hq3 hb3 hc
            go_wp2_with fail
            refine (um _).mono ?_
            rintro e w4 ⟨rfl, rfl⟩
            go_wp2_with fail
            refine (j0 _ 7 eL p _ (fun _ => True) (eY eL _ (by decide) trivial).seen (by decide)).mono ?_
            rintro e w5 ⟨rfl, n5, rfl⟩
            have hb5 : Below w.heap.size w ((w3.alloc (.cells (eL.map Value.string).toArray 9)).drewN n5) := aU (hbr3.alloc hbr3.size _) _
            have hc5 : ((w3.alloc (.cells (eL.map Value.string).toArray 9)).drewN n5).cell? ⟨g, 0, none⟩ = some (.string p) := by
              show (w3.alloc _).cell? _ = _
              rw [World.cell?_alloc_lt w3 _ _ (World.block_lt_of_cell? w3 _ hc3)]; exact hc3
            generalize (w3.alloc (.cells (eL.map Value.string).toArray 9)).drewN n5 = w6 at hb5 hc5
            cases hw : jv eL p
            · go_wp2_with fail
              go_roundw
              case rel => exact ⟨1, by omega, rfl, hb5, hc5, .inr (by rw [cj, hq, ← Hwords.out, hw]; rfl)⟩
              case measure => simp [intOf]
            · go_wp2_with fail
              go_ret
              exact ⟨bm (by rw [← Hsel.out, Hfin.out, hq, ← Hwords.out, hw]; rfl), hb5⟩
        · obtain rfl : k = 1 := by omega
          have hn : cj p.data.toList = true := by
            rcases hr with h | h
            · cases h
            · exact h
          have Hn := Lib.hid hn
          clear hr hn
          go_wp2_with fail
          go_ret
          exact ⟨bm (by rw [← Hsel.out, Hfin.out]; exact Hn.out.symm), hbr⟩
  · go_wp2_with fail
    refine (fJ _).mono ?_
    rintro e w1 ⟨rfl, rfl⟩
    go_wp2_with fail
    refine (j0 _ 15 oD s _ (fun _ => True) (eY oD _ (by decide) trivial).seen (by decide)).mono ?_
    rintro e w1 ⟨rfl, hq⟩
    have hb1 : Below w.heap.size w w1 := by
      obtain ⟨n, rfl⟩ := hq
      exact aU ((Below.refl _ _).alloc (Nat.le_refl _) _) _
    go_wp2
    go_ret
    exact ⟨bm (by rw [cw, ← Hops.out, ho]; rfl), hb1⟩


set_option maxHeartbeats 400000 in
theorem kv (s : ByteArray) (w : World) (hs : s.size ≤ 1048576) : Calls Tryz.prog 204 #[.string s] w fun e w' => e = .returned (.int .i64 (bT s.data.toList)) ∧ Below w.heap.size w w' := by
  have Hargs := Lib.hid (uf s.data.toList)
  have Hsel := Lib.hid (ky s.data.toList)
  have Hops := Lib.hid (pL s)
  cases hq : cw s.data.toList
  · go_enter Tryz.func204, Tryz.ntmps204
    go_wp2_with fail
    refine (dT s w hs).mono ?_
    rintro e w1 ⟨rfl, hb1⟩
    go_wp2_with fail
    go_ret
    exact ⟨gm (by rw [← Hargs.out, jU, Hsel.out, hq]; rfl), hb1⟩
  · cases ho : jv oD s
    all_goals
      go_enter Tryz.func204, Tryz.ntmps204
      go_wp2_with fail
      refine (dT s w hs).mono ?_
      rintro e w1 ⟨rfl, hb1⟩
      go_wp2_with fail
      refine (fJ _).mono ?_
      rintro e w2 ⟨rfl, rfl⟩
      go_wp2_with fail
      refine (j0 _ 15 oD s _ (fun _ => True) (eY oD _ (by decide) trivial).seen (by decide)).mono ?_
      rintro e w3 ⟨rfl, hq3⟩
      have hb3 : Below w.heap.size w w3 := by
        obtain ⟨n, rfl⟩ := hq3
        exact aU (hb1.alloc hb1.size _) _
      go_wp2_with fail
    · refine (kd s 58 w3 hs).mono ?_
      rintro e w4 ⟨ps, g, c, hps, rfl, hb4, how⟩
      have hlen : ps.length = (spl 58 s.data.toList).length := by rw [← hps, List.length_map]
      have hl2 := kw 58 s.data.toList
      rw [bv, ← hlen] at hl2
      have Hlen := Lib.hid hlen
      have hps' := Lib.hid hps
      clear hlen hps
      go_wp2_with fail
      go_ret
      exact ⟨gm (by rw [← Hargs.out, jU, Hsel.out, hq, ← Hops.out, ho, ← Hlen.out]; rfl), hb3.trans (hb4.mono hb3.size)⟩
    · go_ret
      exact ⟨gm (by rw [← Hargs.out, jU, Hsel.out, hq, ← Hops.out, ho]; rfl), hb3⟩

end Go.Proofs.YtiihihgjiklnoaaGreatDoor
