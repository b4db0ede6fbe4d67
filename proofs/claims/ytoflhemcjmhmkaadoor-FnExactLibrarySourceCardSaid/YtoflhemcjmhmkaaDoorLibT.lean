/- The library's programs: the texts that put digits into an array. -/
import Derived.Test.YtoflhemcjmhmkaaDoorDig
import Derived.Test.YtoflhemcjmhmkaaDoorNum
import Derived.Lib.OthersKept
import Derived.Deep.RegionWith
import Derived.Deep.RegionHeld3
import Derived.IntWalk
namespace Go.Proofs.YtoflhemcjmhmkaaDoor
open Go Go.RowKit

def arrIt (i : Nat) (b : UInt8) : List UInt8 := [97, 32, 97, 116, 58, 32] ++ (Lib.itoa ((i + 1 : Nat) : Int) ++ ([32, 112, 117, 116, 58, 32] ++ ([b] ++ [46, 32])))
def arrGo : Nat → List UInt8 → List UInt8
  | _, [] => []
  | i, b :: r => arrIt i b ++ arrGo (i + 1) r
/-- The statements that make an array of digits. -/
def arrL (l : List UInt8) : List UInt8 := [97, 32, 58, 61, 32, 65, 114, 114, 97, 121, 32, 110, 101, 119, 58, 32] ++ (Lib.itoa (l.length : Int) ++ ([46, 32] ++ arrGo 0 l))

theorem numB_toList (n : Int) : (numB n).data.toList = Lib.itoa n := rfl
theorem arrGo_step (s : ByteArray) {k : Nat} (h : k < s.size) : arrGo k (s.data.toList.drop k) = arrIt k s[k] ++ arrGo (k + 1) (s.data.toList.drop (k + 1)) := by
  rw [drop_byte s h]; rfl
theorem arrGo_end (s : ByteArray) {k : Nat} (h : ¬ k < s.size) : arrGo k (s.data.toList.drop k) = [] := by
  rw [List.drop_eq_nil_of_le (by rw [size_toList]; omega)]; rfl
theorem extract_one (s : ByteArray) {k : Nat} (h : k < s.size) : (s.extract k (k + 1)).data.toList = [s[k]] := by
  rw [Lib.extract_data, drop_byte s h]
  simp
theorem cellB {w w' : World} {a : Addr} {v : Value} (hb : Below w.heap.size w w') (p : w.cell? a = some v) : w'.cell? a = some v := (hb.cell (World.block_lt_of_cell? w _ p)).trans p
theorem numB_digit {b : UInt8} (h : 48 ≤ (b.toNat : Int) ∧ (b.toNat : Int) ≤ 57) : (numB ((b.toNat : Int) - 48)).data.toList = [b] := by
  have h1 : ∀ n : Nat, n < 256 → 48 ≤ n → n ≤ 57 → Lib.itoa ((n : Int) - 48) = [UInt8.ofNat n] := by
    intro n _ h2 h3
    have : n = 48 ∨ n = 49 ∨ n = 50 ∨ n = 51 ∨ n = 52 ∨ n = 53 ∨ n = 54 ∨ n = 55 ∨ n = 56 ∨ n = 57 := by omega
    rcases this with rfl | rfl | rfl | rfl | rfl | rfl | rfl | rfl | rfl | rfl <;> decide +kernel
  rw [numB_toList, h1 b.toNat b.toNat_lt (by omega) (by omega)]
  simp
theorem tl_append (a b : ByteArray) : (a ++ b).data.toList = a.data.toList ++ b.data.toList := by rw [ByteArray.data_append, Array.toList_append]

theorem itoa_le {n : Int} (h0 : -9223372036854775808 ≤ n) (h1 : n ≤ 9223372036854775807) : (Lib.itoa n).length ≤ 20 := by
  have := numB_size h0 h1
  rw [← size_toList, numB_toList] at this; exact this
theorem arrGo_length : ∀ (l : List UInt8) (i : Nat), i + l.length ≤ 1000 → (arrGo i l).length ≤ 35 * l.length
  | [], i, _ => by simp [arrGo]
  | b :: r, i, h => by
    have h1 := arrGo_length r (i + 1) (by simp only [List.length_cons] at h; omega)
    have h2 := itoa_le (n := ((i + 1 : Nat) : Int)) (by omega) (by simp only [List.length_cons] at h; omega)
    simp only [arrGo, arrIt, List.length_append, List.length_cons, List.length_nil]
    omega
theorem arrL_length (s : ByteArray) (h : s.size ≤ 10) : (arrL s.data.toList).length ≤ 400 := by
  have h1 := arrGo_length s.data.toList 0 (by rw [size_toList]; omega)
  have h2 := itoa_le (n := (s.data.toList.length : Int)) (by omega) (by rw [size_toList]; omega)
  rw [size_toList] at h1 h2
  simp only [arrL, List.length_append, List.length_cons, List.length_nil, size_toList]
  omega

set_option maxHeartbeats 800000 in
theorem arrayText_any (s : ByteArray) (w : World) (ht : TabL w) (hs : s.size ≤ 10) (hd : s.data.toList.all digit = true) : Calls Tryd.prog 33 #[.string s] w fun e w' => e = .returned (.string ⟨(arrL s.data.toList).toArray⟩) ∧ Below w.heap.size w w' := by
  have HD := Lib.hid hd
  have HL := Lib.hid (arrL_length s hs)
  have hn1 := numB_size (n := (s.size : Int)) (by omega) (by omega)
  clear hd
  go_enter Tryd.func33, Tryd.ntmps33
  go_wp2_with (go_at_call 38; refine (formatInt_any (s.size : Int) _ ht (by omega) (by omega)).mono ?_; rintro e w1 ⟨rfl, hb1⟩)
  have hz1 := hb1.size
  go_loopw [3] (fun sv wr => ∃ (k : Nat) (acc : ByteArray), k ≤ s.size ∧ sv = .string acc ∧ acc.data.toList ++ arrGo k (s.data.toList.drop k) = arrL s.data.toList ∧ wr.heap[w1.heap.size]? = some (.stringIter s k) ∧ Below w.heap.size w wr) (fun _ wr => s.size - wr.iterPos w1.heap.size)
  case atStart => exact ⟨0, _, Nat.zero_le _, rfl, by simp [numB_toList, arrL], World.iter_heap _ _ _, hb1.trans (((Below.refl _ _).alloc (Nat.le_refl _) _).mono hz1)⟩
  case round =>
    obtain ⟨k, acc, hk, rfl, hr, hit, hb⟩ := hrel
    have Hr := Lib.hid hr
    clear hr
    by_cases hlt : k < s.size
    · have hdk := digit_b (allD_at HD.out hlt)
      have hnx := fun ty => Lib.run_next_ascii_at (P := Tryd.prog) wr w1.heap.size s k ty hit hlt (by omega)
      have hit2 := Lib.iterAt_heap wr w1.heap.size s k (k + 1) hit
      have hb2 : Below w.heap.size w (wr.iterAt w1.heap.size s (k + 1)) := Lib.below_iterAt hb hz1 s (k + 1)
      have hasz : acc.size ≤ 400 := by
        have h1 := congrArg List.length Hr.out
        rw [List.length_append, size_toList] at h1
        have := HL.out
        omega
      have hn2 := numB_size (n := (k : Int) + 1) (by omega) (by omega)
      have Hs := Lib.hid (arrGo_step s hlt)
      have Hx := Lib.hid (extract_one s hlt)
      have hxs : (s.extract k (k + 1)).size = 1 := by rw [← size_toList, Hx.out]; rfl
      have hxs := Nat.le_of_eq hxs
      go_wp2
      have hw1 : IntKind.i64.wrap ((k : Int) + 1) = (k : Int) + 1 := IntWalk.i64_in _ (by omega)
      clear hb hnx
      generalize wr.iterAt w1.heap.size s (k + 1) = w2 at hb2 hit2
      have i0 : (0 : Int) ≤ (k : Int) + 1 := by omega
      have i1 : (k : Int) + 1 ≤ (s.size : Int) := by omega
      have i2 : (k : Int) ≤ (k : Int) + 1 := by omega
      have i3 : ((k : Int) + 1).toNat = k + 1 := by omega
      have z1 : ¬ 9223372036854775807 < 6 + (numB ((k : Int) + 1)).size := by omega
      have z2 : ¬ 9223372036854775807 < 6 + (numB ((k : Int) + 1)).size + 6 := by omega
      have z3 : ¬ 9223372036854775807 < 6 + (numB ((k : Int) + 1)).size + 6 + 1 := by omega
      have z4 : ¬ 9223372036854775807 < 6 + (numB ((k : Int) + 1)).size + 6 + 1 + 2 := by omega
      have z5 : ¬ 9223372036854775807 < acc.size + (6 + (numB ((k : Int) + 1)).size + 6 + 1 + 2) := by omega
      go_region_held3 (fun W => Below w.heap.size w W ∧ W.heap[w1.heap.size]? = some (Obj.stringIter s (k + 1))) (first | exact ⟨hb2, hit2⟩ | exact ⟨hb2.drew, hit2⟩ | exact ⟨hb2.drew.trans (hb3.mono hb2.drew.size), (hb3.block _ (by exact (Array.getElem?_eq_some_iff.1 hit2).1)).trans hit2⟩) (first | (go_at_call 38; refine (formatInt_any ((k : Int) + 1) _ (by exact ht.below hb2.drew) (by omega) (by omega)).mono ?_; rintro e w3 ⟨rfl, hb3⟩))
      obtain ⟨hB, hI⟩ := (by assumption : Below w.heap.size w w3 ∧ w3.heap[w1.heap.size]? = some (Obj.stringIter s (k + 1)))
      go_wp2
      go_roundw
      case rel =>
        refine ⟨k + 1, _, by omega, rfl, ?_, hI, hB⟩
        rw [← Hr.out, Hs.out]
        simp only [tl_append, Hx.out, arrIt, numB_toList, List.append_assoc]
        rfl
      case measure => simp [World.iterPos, hI, hit] <;> omega
    · have hnx := fun ty => Lib.run_next_end_at (P := Tryd.prog) wr w1.heap.size s k ty hit hlt
      go_wp2
      go_ret
      exact ⟨ret_str (bytes_eq (by have := Hr.out; rw [arrGo_end s hlt, List.append_nil] at this; exact this)), hb⟩

set_option maxHeartbeats 800000 in
theorem l29Array_any (A : Option Addr) (c : Nat) (s : ByteArray) (w : World) (hs : s.size ≤ 10) (hd : s.data.toList.all digit = true) (hsee : Seen w (· < w.heap.size) (.sl A c 1 (ints (digN s.data.toList)))) : Calls Tryd.prog 30 #[.slice A s.size c] w fun e w' => e = .returned (.string ⟨(arrL s.data.toList).toArray⟩) ∧ Below w.heap.size w w' := by
  have HD := Lib.hid hd
  have HL := Lib.hid (arrL_length s hs)
  have hn1 := numB_size (n := (s.size : Int)) (by omega) (by omega)
  clear hd
  go_enter Tryd.func30, Tryd.ntmps30
  go_wp2_with (go_at_call 29; refine (specFormatInt_any (s.size : Int) _ (by omega) (by omega)).mono ?_; rintro e w1 ⟨rfl, hb1⟩)
  have hz1 := hb1.size
  go_loopw [3, 4] (fun sv iv wr => ∃ (k : Nat) (acc : ByteArray), k ≤ s.size ∧ iv = .int .i64 k ∧ sv = .string acc ∧ acc.data.toList ++ arrGo k (s.data.toList.drop k) = arrL s.data.toList ∧ Below w.heap.size w wr) (fun _ iv _ => s.size - (intOf iv).toNat)
  case atStart => exact ⟨0, _, Nat.zero_le _, rfl, rfl, by simp [numB_toList, arrL], hb1⟩
  case round =>
    obtain ⟨k, acc, hk, rfl, rfl, hr, hb⟩ := hrel
    have Hr := Lib.hid hr
    clear hr
    by_cases hlt : k < s.size
    · have hdk := digit_b (allD_at HD.out hlt)
      obtain ⟨b, o, rfl, hbB, hcell⟩ := hsee.int_at (k := k) (by rw [digN_length, size_toList]; exact hlt)
      have hgd : (digN s.data.toList)[k]'(by rw [digN_length, size_toList]; exact hlt) = (s[k].toNat : Int) - 48 := by simp [digN]; rfl
      rw [hgd] at hcell
      clear hgd
      have c0 : wr.cell? ⟨b, o + k, none⟩ = some (.int .i64 ((s[k].toNat : Int) - 48)) := (hb.cell (p := ⟨b, o + k, none⟩) hbB).trans hcell
      clear hcell
      have hasz : acc.size ≤ 400 := by
        have h1 := congrArg List.length Hr.out
        rw [List.length_append, size_toList] at h1
        have := HL.out
        omega
      have hn2 := numB_size (n := (k : Int) + 1) (by omega) (by omega)
      have hn3 := numB_size (n := (s[k].toNat : Int) - 48) (by omega) (by omega)
      have Hs := Lib.hid (arrGo_step s hlt)
      have Hd1 := Lib.hid (numB_digit hdk)
      go_wp2
      have hw1 : IntKind.i64.wrap ((k : Int) + 1) = (k : Int) + 1 := IntWalk.i64_in _ (by omega)
      have i0 : (0 : Int) ≤ (k : Int) := by omega
      have i1 : (k : Int) < (s.size : Int) := by omega
      have y1 : ¬ 9223372036854775807 < acc.size + 6 := by omega
      have y2 : ¬ 9223372036854775807 < acc.size + 6 + (numB ((k : Int) + 1)).size := by omega
      have y3 : ¬ 9223372036854775807 < acc.size + 6 + (numB ((k : Int) + 1)).size + 6 := by omega
      have y4 : ¬ 9223372036854775807 < acc.size + 6 + (numB ((k : Int) + 1)).size + 6 + (numB ((s[k].toNat : Int) - 48)).size := by omega
      have y5 : ¬ 9223372036854775807 < acc.size + 6 + (numB ((k : Int) + 1)).size + 6 + (numB ((s[k].toNat : Int) - 48)).size + 2 := by omega
      go_region_held3 (fun W => Below w.heap.size w W ∧ W.cell? ⟨b, o + k, none⟩ = some (.int .i64 ((s[k].toNat : Int) - 48))) (first | exact ⟨hb, c0⟩ | exact ⟨hb.drew, c0⟩ | exact ⟨gB, gC⟩) (first
        | (go_at_call 29; obtain ⟨gB, gC⟩ := (by assumption : Below w.heap.size w _ ∧ World.cell? _ ⟨b, o + k, none⟩ = some _); refine (specFormatInt_any _ _ (by omega) (by omega)).mono ?_; rintro e w2 ⟨rfl, hb2⟩; have gB := gB.trans (hb2.mono gB.size); have gC := cellB hb2 gC))
      clear gC
      go_wp2
      go_roundw
      case rel =>
        refine ⟨k + 1, _, by omega, by go_num, rfl, ?_, gB⟩
        rw [← Hr.out, Hs.out]
        simp only [tl_append, Hd1.out, arrIt, numB_toList, List.append_assoc]
        rfl
      case measure => simp [intOf]; omega
    · go_wp2
      go_ret
      exact ⟨ret_str (bytes_eq (by have := Hr.out; rw [arrGo_end s hlt, List.append_nil] at this; exact this)), hb⟩
end Go.Proofs.YtoflhemcjmhmkaaDoor
