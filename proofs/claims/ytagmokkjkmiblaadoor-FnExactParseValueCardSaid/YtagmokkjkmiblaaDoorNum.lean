/- Numbers as texts: the program's FormatInt and the reference's. -/
import Derived.Test.YtagmokkjkmiblaaDoorStr
import Derived.Test.YtagmokkjkmiblaaDoorShelf
import Derived.Lib.AppendIntMem
namespace Go.Proofs.YtagmokkjkmiblaaDoor
open Go Go.RowKit

/-- The library's table of powers of ten is laid. -/
def TabL (w : World) : Prop := Lib.TabIs Tryd.prog w "internal/strconv.uint64pow10" .u64 Lib.pow10Tab
theorem TabL.below {w w' : World} (h : TabL w) (hb : Below w.heap.size w w') : TabL w' := Lib.tabBelow_of_tabIs h w' hb

/-- A number's text. -/
def numB (n : Int) : ByteArray := ⟨(Lib.itoa n).toArray⟩

theorem nDigits_le : ∀ (k u : Nat), u < 10 ^ (k + 1) → Lib.nDigits u ≤ k + 1
  | 0, u, h => by rw [Lib.nDigits_small (by simpa using h)]; omega
  | k + 1, u, h => by
    by_cases h1 : u < 10
    · rw [Lib.nDigits_small h1]; omega
    · rw [Lib.nDigits_big h1]
      have := nDigits_le k (u / 10) (by rw [Nat.pow_succ] at h; omega)
      omega
theorem numB_size {n : Int} (h0 : -9223372036854775808 ≤ n) (h1 : n ≤ 9223372036854775807) : (numB n).size ≤ 20 := by
  show (Lib.itoa n).toArray.size ≤ 20
  rw [List.size_toArray, Lib.itoa]
  split
  · rw [List.length_cons, Lib.decDigits_length]; have := nDigits_le 18 n.natAbs (by simp; omega); omega
  · rw [Lib.decDigits_length]; have := nDigits_le 18 n.toNat (by simp; omega); omega

theorem formatInt_any (n : Int) (w : World) (ht : TabL w) (h0 : -9223372036854775808 ≤ n) (h1 : n ≤ 9223372036854775807) : Calls Tryd.prog 41 #[.int .i64 n] w fun e w' => e = .returned (.string (numB n)) ∧ Below w.heap.size w w' := by
  go_enter Tryd.func41, Tryd.ntmps41
  go_wp2_with (go_at_call 71; refine (Tryd.strconv_Itoa n h0 h1 _ ht).mono ?_; rintro e w' ⟨rfl, k, os, rfl⟩)
  go_ret
  exact ⟨rfl, Lib.below_grow _ _ (Nat.le_refl _) _ _⟩

/-- The digits of a number, none where it is 0. -/
def pre (u : Nat) : List UInt8 := if u = 0 then [] else Lib.decDigits u
theorem pre_step {u : Nat} (h : u ≠ 0) : pre u = pre (u / 10) ++ [UInt8.ofNat (48 + u % 10)] := by
  unfold pre
  rw [if_neg h, Lib.decDigits]
  by_cases h1 : u < 10
  · rw [dif_pos h1, if_pos (by omega), Nat.mod_eq_of_lt h1]; rfl
  · rw [dif_neg h1, if_neg (by omega)]
theorem pre_length {u : Nat} (h : u < 10000000000000000000) : (pre u).length ≤ 19 := by
  unfold pre
  split
  · simp
  · rw [Lib.decDigits_length]; exact nDigits_le 18 u (by simpa using h)

theorem numB_pre {n : Int} (hz : n ≠ 0) : numB n = if n < 0 then ⟨(45 :: pre n.natAbs).toArray⟩ else ⟨(pre n.natAbs).toArray⟩ := by
  have h1 : pre n.natAbs = Lib.decDigits n.natAbs := by unfold pre; rw [if_neg (by omega)]
  rw [h1]
  unfold numB Lib.itoa
  by_cases h : n < 0
  · rw [if_pos h, if_pos h]
  · rw [if_neg h, if_neg h, show n.toNat = n.natAbs by omega]
theorem tmod_abs (m : Int) : Int.tmod m 10 = if m < 0 then -((m.natAbs % 10 : Nat) : Int) else ((m.natAbs % 10 : Nat) : Int) := by
  by_cases h : m < 0
  · rw [if_pos h]
    have h2 : Int.tmod m 10 = -((-m) % 10) := by rw [← Int.tmod_eq_emod_of_nonneg (by omega), Int.neg_tmod]; omega
    rw [h2]; omega
  · rw [if_neg h, Int.tmod_eq_emod_of_nonneg (by omega)]; omega
/-- 'string([]byte{b})' of a byte that is reckoned. -/
theorem conv_one (src : TypeId) (e : TypeId) (w : World) (d : Nat) (hd : d < 256) (v : Int) (hv : v = d) (hs : Tryd.prog.underlying src = some (.slice e)) (he : Tryd.prog.underlying e = some (.int .u8)) :
    (convert src 9 (.slice (some ⟨w.heap.size, 0, none⟩) 1 1)).run Tryd.prog (w.alloc (.cells #[.int .u8 v] e)) = .ok (.string ⟨#[UInt8.ofNat d]⟩) (w.alloc (.cells #[.int .u8 v] e)) := by
  subst hv
  refine run_convert_bytes_back (P := Tryd.prog) _ src 9 e ⟨w.heap.size, 0, none⟩ 1 [UInt8.ofNat d] hs he Tryd.underlying9 fun j hj => ?_
  have hj0 : j = 0 := by simp at hj; omega
  subst hj0
  have h := Blk.cell (Blk.new w e #[.int .u8 (d : Int)]) 0
  rw [show (⟨w.heap.size, 0, none⟩ : Addr).add 0 = ⟨w.heap.size, 0, none⟩ from rfl, h]
  show some (Value.int .u8 (d : Int)) = some (.int .u8 ((UInt8.ofNat d).toNat : Int))
  rw [UInt8.toNat_ofNat', Nat.mod_eq_of_lt hd]
theorem tdiv_abs (m : Int) : (Int.tdiv m 10).natAbs = m.natAbs / 10 := by rw [Int.natAbs_tdiv]; rfl

set_option maxHeartbeats 400000 in
set_option maxRecDepth 8000 in
theorem specFormatInt_any (n : Int) (w : World) (h0 : -9223372036854775808 ≤ n) (h1 : n ≤ 9223372036854775807) : Calls Tryd.prog 67 #[.int .i64 n] w fun e w' => e = .returned (.string (numB n)) ∧ Below w.heap.size w w' := by
  by_cases hz : n = 0
  · subst hz
    go_enter Tryd.func67, Tryd.ntmps67
    go_wp2
    go_ret
    exact ⟨ret_str (by decide +kernel), Below.refl _ _⟩
  have Hlen := Lib.hid (pre_length (u := n.natAbs) (by omega))
  have HP := Lib.hid (numB_pre hz)
  by_cases hneg : n < 0
  all_goals
    go_enter Tryd.func67, Tryd.ntmps67
    go_wp2
    go_loopw [0, 4] (fun nv ov wr => ∃ (m : Int) (s : ByteArray), nv = .int .i64 m ∧ ov = .string s ∧ -9223372036854775808 ≤ m ∧ m ≤ 9223372036854775807 ∧ pre m.natAbs ++ s.data.toList = pre n.natAbs ∧ Below w.heap.size w wr) (fun nv _ _ => (intOf nv).natAbs)
    case atStart => exact ⟨n, _, rfl, rfl, h0, h1, by simp, Below.refl _ _⟩
    case round =>
      obtain ⟨m, s, rfl, rfl, hm0, hm1, hr, hb⟩ := hrel
      have hsz : s.size ≤ 19 := by
        have := congrArg List.length hr
        rw [List.length_append, size_toList] at this
        have := Hlen.out
        omega
      have Hr := Lib.hid hr
      clear hr
      by_cases hm : m = 0
      · subst hm
        go_wp2
        go_ret
        refine ⟨ret_str ?_, hb⟩
        have h2 := Hr.out
        rw [HP.out]
        rw [show (0 : Int).natAbs = 0 from rfl, show pre 0 = [] from rfl, List.nil_append] at h2
        first
          | (rw [if_pos hneg]; exact bytes_eq (by rw [ByteArray.data_append, Array.toList_append, h2]; rfl))
          | (rw [if_neg (by omega)]; exact bytes_eq h2)
      · have ha := tmod_abs m
        have hd9 : m.natAbs % 10 ≤ 9 := by omega
        have hp := pre_step (u := m.natAbs) (by omega)
        have hq := tdiv_abs m
        generalize hd : m.natAbs % 10 = d at ha hd9 hp
        obtain ⟨b, hbd⟩ : ∃ b, UInt8.ofNat (48 + d) = b := ⟨_, rfl⟩
        rw [hbd] at hp
        have Hp := Lib.hid hp
        have Hq := Lib.hid hq
        have hcv := conv_one 87 5 wr (48 + d) (by omega) (48 + (d : Int)) (by omega) Tryd.underlying87 Tryd.underlying5
        rw [hbd] at hcv
        clear hp hd hq hbd
        have hnext : pre (Int.tdiv m 10).natAbs ++ ((⟨#[b]⟩ : ByteArray) ++ s).data.toList = pre n.natAbs := by
          rw [Hq.out, ← Hr.out, Hp.out, ByteArray.data_append, Array.toList_append, List.append_assoc]
        have Hn := Lib.hid hnext
        clear hnext
        have hbel : ∀ o, Below w.heap.size w (wr.alloc o) := fun o => hb.trans (((Below.refl _ _).alloc (Nat.le_refl _) o).mono hb.size)
        have hm10 : (Int.tdiv m 10).natAbs < m.natAbs := by rw [Hq.out]; omega
        have Hm10 := Lib.hid hm10
        clear hm10 hb
        by_cases hs : m < 0
        · rw [if_pos hs] at ha
          by_cases hd0 : d = 0
          · subst hd0
            rw [show -((0 : Nat) : Int) = 0 from rfl] at ha
            rw [show 48 + ((0 : Nat) : Int) = 48 from rfl] at hcv
            go_wp2
            go_roundw
            case rel => exact ⟨_, _, rfl, rfl, by have := Hm10.out; omega, by have := Hm10.out; omega, Hn.out, hbel _⟩
            case measure => exact Hm10.out
          · have hd1 : -(d : Int) < 0 := by omega
            go_wp2
            go_roundw
            case rel => exact ⟨_, _, rfl, rfl, by have := Hm10.out; omega, by have := Hm10.out; omega, Hn.out, hbel _⟩
            case measure => exact Hm10.out
        · rw [if_neg hs] at ha
          have hd1 : ¬ (d : Int) < 0 := by omega
          have hdv : Int.tdiv m 10 = m / 10 := Int.tdiv_eq_ediv_of_nonneg (by omega)
          have Hm10 := Lib.hid (hdv ▸ Hm10.out)
          have Hn := Lib.hid (hdv ▸ Hn.out)
          clear hdv
          go_wp2
          go_roundw
          case rel => exact ⟨_, _, rfl, rfl, by have := Hm10.out; omega, by have := Hm10.out; omega, Hn.out, hbel _⟩
          case measure => exact Hm10.out
end Go.Proofs.YtagmokkjkmiblaaDoor
