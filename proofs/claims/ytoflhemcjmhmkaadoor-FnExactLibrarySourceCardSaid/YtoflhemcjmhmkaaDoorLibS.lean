/- LibrarySource: the program's and the reference's. Written by gen_lib.py. -/
import Derived.Test.YtoflhemcjmhmkaaDoorLibT
namespace Go.Proofs.YtoflhemcjmhmkaaDoor
open Go Go.RowKit

def lbT1 : List UInt8 := [99, 108, 97, 115, 115, 32, 77, 97, 116, 104, 32, 101, 120, 116, 101, 110, 100, 115, 32, 79, 98, 106, 101, 99, 116, 10, 99, 108, 97, 115, 115, 109, 101, 116, 104, 111, 100, 32, 102, 97, 99, 116, 58, 32, 110, 10, 32, 94, 32, 110, 32, 60, 32, 50, 32, 105, 102, 84, 114, 117, 101, 58, 32, 91, 49, 93, 32, 105, 102, 70, 97, 108, 115, 101, 58, 32, 91, 110, 32, 42, 32, 40, 115, 101, 108, 102, 32, 102, 97, 99, 116, 58, 32, 110, 32, 45, 32, 49, 41, 93, 10, 101, 110, 100, 10, 109, 97, 105, 110, 10, 32, 94, 32, 77, 97, 116, 104, 32, 102, 97, 99, 116, 58, 32]
def lbT2 : List UInt8 := [99, 108, 97, 115, 115, 32, 83, 111, 114, 116, 101, 114, 32, 101, 120, 116, 101, 110, 100, 115, 32, 79, 98, 106, 101, 99, 116, 10, 99, 108, 97, 115, 115, 109, 101, 116, 104, 111, 100, 32, 115, 111, 114, 116, 58, 32, 97, 10, 32, 124, 32, 120, 32, 106, 32, 124, 32, 50, 32, 116, 111, 58, 32, 97, 32, 115, 105, 122, 101, 32, 100, 111, 58, 32, 91, 58, 105, 32, 124, 32, 120, 32, 58, 61, 32, 97, 32, 97, 116, 58, 32, 105, 46, 32, 106, 32, 58, 61, 32, 105, 32, 45, 32, 49, 46, 32, 91, 106, 32, 62, 32, 48, 32, 97, 110, 100, 58, 32, 91, 40, 97, 32, 97, 116, 58, 32, 106, 41, 32, 62, 32, 120, 93, 93, 32, 119, 104, 105, 108, 101, 84, 114, 117, 101, 58, 32, 91, 97, 32, 97, 116, 58, 32, 106, 32, 43, 32, 49, 32, 112, 117, 116, 58, 32, 40, 97, 32, 97, 116, 58, 32, 106, 41, 46, 32, 106, 32, 58, 61, 32, 106, 32, 45, 32, 49, 93, 46, 32, 97, 32, 97, 116, 58, 32, 106, 32, 43, 32, 49, 32, 112, 117, 116, 58, 32, 120, 93, 46, 32, 94, 32, 97, 10, 101, 110, 100, 10, 109, 97, 105, 110, 10, 32, 124, 32, 97, 32, 124, 32]
def lbU2 : List UInt8 := [94, 32, 83, 111, 114, 116, 101, 114, 32, 115, 111, 114, 116, 58, 32, 97, 10]
def lbT3 : List UInt8 := [109, 97, 105, 110, 10, 32, 124, 32, 115, 32, 110, 32, 124, 32, 115, 32, 58, 61, 32, 83, 101, 109, 97, 112, 104, 111, 114, 101, 32, 110, 101, 119, 46, 32, 110, 32, 58, 61, 32, 48, 46, 32, 91, 49, 32, 116, 111, 58, 32]
def lbU3 : List UInt8 := [32, 100, 111, 58, 32, 91, 58, 105, 32, 124, 32, 110, 32, 58, 61, 32, 110, 32, 43, 32, 105, 46, 32, 115, 32, 115, 105, 103, 110, 97, 108, 46, 32, 80, 114, 111, 99, 101, 115, 115, 32, 121, 105, 101, 108, 100, 93, 93, 32, 102, 111, 114, 107, 46, 32, 49, 32, 116, 111, 58, 32]
def lbV3 : List UInt8 := [32, 100, 111, 58, 32, 91, 58, 105, 32, 124, 32, 115, 32, 119, 97, 105, 116, 46, 32, 84, 114, 97, 110, 115, 99, 114, 105, 112, 116, 32, 115, 104, 111, 119, 58, 32, 110, 93, 46, 32, 94, 32, 110, 10]
def lbT4 : List UInt8 := [99, 108, 97, 115, 115, 32, 70, 105, 110, 100, 101, 114, 32, 101, 120, 116, 101, 110, 100, 115, 32, 79, 98, 106, 101, 99, 116, 10, 109, 101, 116, 104, 111, 100, 32, 102, 105, 114, 115, 116, 58, 32, 107, 32, 105, 110, 58, 32, 97, 10, 32, 49, 32, 116, 111, 58, 32, 97, 32, 115, 105, 122, 101, 32, 100, 111, 58, 32, 91, 58, 105, 32, 124, 32, 40, 97, 32, 97, 116, 58, 32, 105, 41, 32, 62, 32, 107, 32, 105, 102, 84, 114, 117, 101, 58, 32, 91, 94, 32, 105, 93, 93, 46, 32, 94, 32, 48, 10, 101, 110, 100, 10, 109, 97, 105, 110, 10, 32, 124, 32, 97, 32, 124, 32]
def lbU4 : List UInt8 := [94, 32, 70, 105, 110, 100, 101, 114, 32, 110, 101, 119, 32, 102, 105, 114, 115, 116, 58, 32]
def lbV4 : List UInt8 := [32, 105, 110, 58, 32, 97, 10]
def lbT5 : List UInt8 := [109, 97, 105, 110, 10, 32, 124, 32, 115, 32, 124, 32, 115, 32, 58, 61, 32, 48, 46, 32]
def lbD1 : List UInt8 := [115, 32, 58, 61, 32, 115, 32, 43, 32, 40, 91, 49, 48, 32, 47, 47, 32]
def lbD2 : List UInt8 := [93, 32, 111, 110, 58, 32, 90, 101, 114, 111, 68, 105, 118, 105, 100, 101, 32, 100, 111, 58, 32, 91, 58, 101, 32, 124, 32, 101, 32, 114, 101, 115, 117, 109, 101, 58, 32, 48, 93, 41, 46, 32]
def lbU5 : List UInt8 := [94, 32, 115, 10]

def divGo : List UInt8 → List UInt8
  | [] => []
  | b :: r => lbD1 ++ ([b] ++ (lbD2 ++ divGo r))
def okLib (k : Int) (s : ByteArray) : Bool := inR k 1 5 && (s.data.toList.all digit && inR s.size 1 10)
/-- The text of a program of the library. -/
def libL (k : Int) (l : List UInt8) : List UInt8 :=
  if k = 1 then lbT1 ++ (l.take 1 ++ [10])
  else if k = 2 then lbT2 ++ (arrL l ++ lbU2)
  else if k = 3 then lbT3 ++ (l.take 1 ++ (lbU3 ++ (l.take 1 ++ lbV3)))
  else if k = 4 then lbT4 ++ (arrL l ++ (lbU4 ++ (l.take 1 ++ lbV4)))
  else lbT5 ++ (divGo l ++ lbU5)
def LibPost (k : Int) (s : ByteArray) (w : World) (e : Ending) (w' : World) : Prop :=
  e = .returned (.tuple (if okLib k s = true then #[.string ⟨(libL k s.data.toList).toArray⟩, .bool true] else #[.string ⟨#[]⟩, .bool false])) ∧ Below w.heap.size w w'
theorem libPost_no {k : Int} {s : ByteArray} {w w' : World} (h : okLib k s = false) (hb : Below w.heap.size w w') : LibPost k s w (.returned (.tuple #[.string ⟨#[]⟩, .bool false])) w' := ⟨by rw [h]; rfl, hb⟩
theorem libPost_yes {k : Int} {s x : ByteArray} {w w' : World} (h : okLib k s = true) (hx : x.data.toList = libL k s.data.toList) (hb : Below w.heap.size w w') : LibPost k s w (.returned (.tuple #[.string x, .bool true])) w' :=
  ⟨by rw [h, if_pos rfl, ← hx], hb⟩
theorem okLib_ways {k : Int} {s : ByteArray} (h : okLib k s = true) : (k = 1 ∨ k = 2 ∨ k = 3 ∨ k = 4 ∨ k = 5) ∧ s.data.toList.all digit = true ∧ 1 ≤ s.size ∧ s.size ≤ 10 := by
  simp only [okLib, inR, Bool.and_eq_true, decide_eq_true_eq] at h
  refine ⟨by omega, h.2.1, by omega, by omega⟩
theorem digitsOk_is (s : ByteArray) (b : Bool) (hb : (s.data.toList.all digit && inR s.size 1 10) = b) (w : World) (hs : s.size ≤ 1048576) : Calls Tryd.prog 32 #[.string s] w fun e w' => e = .returned (.bool b) ∧ ∃ n, w' = w.drewN n := by
  subst hb; exact digitsOk_any s w hs
theorem divGo_step (s : ByteArray) {k : Nat} (h : k < s.size) : divGo (s.data.toList.drop k) = lbD1 ++ ([s[k]] ++ (lbD2 ++ divGo (s.data.toList.drop (k + 1)))) := by rw [drop_byte s h]; rfl
theorem divGo_end (s : ByteArray) {k : Nat} (h : ¬ k < s.size) : divGo (s.data.toList.drop k) = [] := by
  rw [List.drop_eq_nil_of_le (by rw [size_toList]; omega)]; rfl
theorem divGo_length : ∀ l : List UInt8, (divGo l).length ≤ 100 * l.length
  | [] => by simp [divGo]
  | b :: r => by
    have := divGo_length r
    have h1 : lbD1.length = 17 := rfl
    have h2 : lbD2.length = 42 := rfl
    simp only [divGo, List.length_append, List.length_cons, List.length_nil, h1, h2]
    omega

set_option maxHeartbeats 800000 in
theorem libSrc_no (k : Int) (s : ByteArray) (w : World) (hs : s.size ≤ 1048576) (h : okLib k s = false) : Calls Tryd.prog 8 #[.int .i64 k, .string s] w fun e w' => LibPost k s w e w' := by
  have H := Lib.hid h
  have h0 := h
  clear h
  cases h1 : inR k 1 5
  · clear h0
    go_enter Tryd.func8, Tryd.ntmps8
    go_wp2_with (go_at_call 31; refine (within_any _ _ _ _).mono ?_; rintro e w' ⟨rfl, rfl⟩)
    go_ret2
    exact libPost_no H.out (Below.refl _ _)
  · have h2 : (s.data.toList.all digit && inR s.size 1 10) = false := by simpa only [okLib, h1, Bool.true_and] using h0
    have H2 := Lib.hid h2
    clear h0 h2
    go_enter Tryd.func8, Tryd.ntmps8
    go_wp2_with (first
      | (go_at_call 31; refine (within_any _ _ _ _).mono ?_; rintro e w' ⟨rfl, rfl⟩)
      | (go_at_call 32; refine (digitsOk_is s false H2.out _ hs).mono ?_; rintro e w' ⟨rfl, n, rfl⟩))
    go_ret2
    exact libPost_no H.out (below_drewN (Below.refl _ _) _)

theorem join_new (W : World) (g : Nat) (cs : Array Value) (xs : List ByteArray) (hc : cs = (xs.map Value.string).toArray) (n : Nat) (hn : n = xs.length) (hg : g = W.heap.size) (hlen : (Lib.join (xs.map (·.data.toList)) [10]).length ≤ 5000) (hl : xs.length ≤ 1000) (t : TypeId) :
    Calls Tryd.prog 34 #[.slice (some ⟨g, 0, none⟩) n n, .string ⟨#[10]⟩] (W.alloc (.cells cs t)) fun e w' => ∃ J : ByteArray, e = .returned (.string J) ∧ J.size ≤ 5000 ∧ Hid (J.data.toList = Lib.join (xs.map (·.data.toList)) [10]) ∧ Below W.heap.size W w' := by
  subst hc; subst hn; subst hg
  refine (Tryd.strings_Join W.heap.size 0 xs.length xs ⟨#[10]⟩ _ (fun j x hj => ?_) (by simp) (by omega) (Nat.le_refl _) (by show (Lib.join _ [10]).length ≤ _; omega)).mono fun e w' ⟨he, hb⟩ => ⟨_, he, by show (Lib.join _ [10]).toArray.size ≤ _; simpa using hlen, Lib.hid rfl, ((Below.refl _ _).alloc (Nat.le_refl _) _).trans (hb.mono (by simp))⟩
  obtain ⟨_, _, hA, _, h⟩ := sees_new W (xs.map Value.string).toArray t j (.string x) (by simp [hj])
  simp only [Option.some.injEq, Addr.mk.injEq, and_true] at hA
  obtain ⟨rfl, rfl⟩ := hA
  exact h
theorem join6 (a b c d e f : List UInt8) : Lib.join [a, b, c, d, e, f] [10] = a ++ ([10] ++ (b ++ ([10] ++ (c ++ ([10] ++ (d ++ ([10] ++ (e ++ ([10] ++ f))))))))) := by simp [Lib.join_cons, Lib.joinTail]
theorem join2 (a b : List UInt8) : Lib.join [a, b] [10] = a ++ ([10] ++ b) := by simp [Lib.join_cons, Lib.joinTail]

set_option maxRecDepth 8000 in
set_option maxHeartbeats 1000000 in
theorem libSrc_1 (s : ByteArray) (w : World) (ht : TabL w) (h : okLib 1 s = true) : Calls Tryd.prog 8 #[.int .i64 1, .string s] w fun e w' => LibPost 1 s w e w' := by
  have H := Lib.hid h
  obtain ⟨_, hd, hs1, hs2⟩ := okLib_ways h
  have HD := Lib.hid hd
  have H2 := Lib.hid (show (s.data.toList.all digit && inR s.size 1 10) = true by rw [hd, inR_t (by omega)]; rfl)
  have hw5 : inR 1 1 5 = true := rfl
  have HX := Lib.hid (extract_take s 1)
  have hsz : (s.extract 0 1).size = 1 := by rw [← size_toList, extract_take, List.length_take, size_toList]; omega
  have hsz := Nat.le_of_eq hsz
  have i1 : (1 : Int) ≤ (s.size : Int) := by omega
  have HL := Lib.hid (arrL_length s hs2)
  have HA : (⟨(arrL s.data.toList).toArray⟩ : ByteArray).size ≤ 400 := by have := arrL_length s hs2; show (arrL s.data.toList).toArray.size ≤ _; simpa using this
  obtain ⟨AR, hAR⟩ : ∃ x, x = (⟨(arrL s.data.toList).toArray⟩ : ByteArray) := ⟨_, rfl⟩
  rw [← hAR] at HA
  have HAR := Lib.hid hAR
  have HT := Lib.hid (show AR.data.toList = arrL s.data.toList by rw [hAR])
  clear h hd hAR
  go_enter Tryd.func8, Tryd.ntmps8
  go_wp2_with (first
    | (go_at_call 31; refine (within_any _ _ _ _).mono ?_; rintro e w' ⟨rfl, rfl⟩)
    | (go_at_call 32; refine (digitsOk_is s true H2.out _ (by omega)).mono ?_; rintro e w' ⟨rfl, n, rfl⟩))
  refine (join_new _ _ _ [_, _, _, _, _, _] rfl _ rfl (by simp) ?hl (by simp) _).mono ?_
  case hl =>
    simp only [List.map_cons, List.map_nil, join6, tl_append, List.length_append, List.length_cons, List.length_nil, size_toList]
    simp
    omega
  rintro e w3 ⟨J, rfl, hJ, HJ, hb3⟩
  go_wp2
  go_ret2
  refine libPost_yes H.out ?_ ?_
  · rw [tl_append, HJ.out]
    simp only [List.map_cons, List.map_nil, join6, tl_append, HX.out, HT.out, libL]
    simp only [List.append_assoc]; rfl
  · exact (((below_drewN (Below.refl _ _) n).alloc (Nat.le_refl _) _).trans (hb3.mono (by simp)))

set_option maxRecDepth 8000 in
set_option maxHeartbeats 1000000 in
theorem libSrc_2 (s : ByteArray) (w : World) (ht : TabL w) (h : okLib 2 s = true) : Calls Tryd.prog 8 #[.int .i64 2, .string s] w fun e w' => LibPost 2 s w e w' := by
  have H := Lib.hid h
  obtain ⟨_, hd, hs1, hs2⟩ := okLib_ways h
  have HD := Lib.hid hd
  have H2 := Lib.hid (show (s.data.toList.all digit && inR s.size 1 10) = true by rw [hd, inR_t (by omega)]; rfl)
  have hw5 : inR 2 1 5 = true := rfl
  have HX := Lib.hid (extract_take s 1)
  have hsz : (s.extract 0 1).size = 1 := by rw [← size_toList, extract_take, List.length_take, size_toList]; omega
  have hsz := Nat.le_of_eq hsz
  have i1 : (1 : Int) ≤ (s.size : Int) := by omega
  have HL := Lib.hid (arrL_length s hs2)
  have HA : (⟨(arrL s.data.toList).toArray⟩ : ByteArray).size ≤ 400 := by have := arrL_length s hs2; show (arrL s.data.toList).toArray.size ≤ _; simpa using this
  obtain ⟨AR, hAR⟩ : ∃ x, x = (⟨(arrL s.data.toList).toArray⟩ : ByteArray) := ⟨_, rfl⟩
  rw [← hAR] at HA
  have HAR := Lib.hid hAR
  have HT := Lib.hid (show AR.data.toList = arrL s.data.toList by rw [hAR])
  clear h hd hAR
  go_enter Tryd.func8, Tryd.ntmps8
  go_wp2_with (first
    | (go_at_call 31; refine (within_any _ _ _ _).mono ?_; rintro e w' ⟨rfl, rfl⟩)
    | (go_at_call 32; refine (digitsOk_is s true H2.out _ (by omega)).mono ?_; rintro e w' ⟨rfl, n, rfl⟩)
    | (go_at_call 33; refine (arrayText_any s _ (by exact ht.below ((below_drewN (Below.refl _ _) n).alloc (Nat.le_refl _) _)) hs2 HD.out).mono ?_; rintro e w1 ⟨he, hb1⟩; rw [← HAR.out] at he; obtain rfl := he; have hb1 : Below w.heap.size w w1 := ((below_drewN (Below.refl _ _) n).alloc (Nat.le_refl _) _).trans (hb1.mono (by simp))))
  refine (join_new _ _ _ [_, _, _, _, _, _] rfl _ rfl (by simp) ?hl (by simp) _).mono ?_
  case hl =>
    simp only [List.map_cons, List.map_nil, join6, tl_append, List.length_append, List.length_cons, List.length_nil, size_toList]
    simp
    omega
  rintro e w3 ⟨J, rfl, hJ, HJ, hb3⟩
  go_wp2
  go_ret2
  refine libPost_yes H.out ?_ ?_
  · rw [tl_append, HJ.out]
    simp only [List.map_cons, List.map_nil, join6, tl_append, HX.out, HT.out, libL]
    simp only [List.append_assoc]; rfl
  · exact hb1.trans (hb3.mono hb1.size)

set_option maxRecDepth 8000 in
set_option maxHeartbeats 1000000 in
theorem libSrc_3 (s : ByteArray) (w : World) (ht : TabL w) (h : okLib 3 s = true) : Calls Tryd.prog 8 #[.int .i64 3, .string s] w fun e w' => LibPost 3 s w e w' := by
  have H := Lib.hid h
  obtain ⟨_, hd, hs1, hs2⟩ := okLib_ways h
  have HD := Lib.hid hd
  have H2 := Lib.hid (show (s.data.toList.all digit && inR s.size 1 10) = true by rw [hd, inR_t (by omega)]; rfl)
  have hw5 : inR 3 1 5 = true := rfl
  have HX := Lib.hid (extract_take s 1)
  have hsz : (s.extract 0 1).size = 1 := by rw [← size_toList, extract_take, List.length_take, size_toList]; omega
  have hsz := Nat.le_of_eq hsz
  have i1 : (1 : Int) ≤ (s.size : Int) := by omega
  have HL := Lib.hid (arrL_length s hs2)
  have HA : (⟨(arrL s.data.toList).toArray⟩ : ByteArray).size ≤ 400 := by have := arrL_length s hs2; show (arrL s.data.toList).toArray.size ≤ _; simpa using this
  obtain ⟨AR, hAR⟩ : ∃ x, x = (⟨(arrL s.data.toList).toArray⟩ : ByteArray) := ⟨_, rfl⟩
  rw [← hAR] at HA
  have HAR := Lib.hid hAR
  have HT := Lib.hid (show AR.data.toList = arrL s.data.toList by rw [hAR])
  clear h hd hAR
  go_enter Tryd.func8, Tryd.ntmps8
  go_wp2_with (first
    | (go_at_call 31; refine (within_any _ _ _ _).mono ?_; rintro e w' ⟨rfl, rfl⟩)
    | (go_at_call 32; refine (digitsOk_is s true H2.out _ (by omega)).mono ?_; rintro e w' ⟨rfl, n, rfl⟩))
  refine (join_new _ _ _ [_, _] rfl _ rfl (by simp) ?hl (by simp) _).mono ?_
  case hl =>
    simp only [List.map_cons, List.map_nil, join2, tl_append, List.length_append, List.length_cons, List.length_nil, size_toList]
    simp
    omega
  rintro e w3 ⟨J, rfl, hJ, HJ, hb3⟩
  go_wp2
  go_ret2
  refine libPost_yes H.out ?_ ?_
  · rw [tl_append, HJ.out]
    simp only [List.map_cons, List.map_nil, join2, tl_append, HX.out, HT.out, libL]
    simp only [List.append_assoc]; rfl
  · exact (((below_drewN (Below.refl _ _) n).alloc (Nat.le_refl _) _).trans (hb3.mono (by simp)))

set_option maxRecDepth 8000 in
set_option maxHeartbeats 1000000 in
theorem libSrc_4 (s : ByteArray) (w : World) (ht : TabL w) (h : okLib 4 s = true) : Calls Tryd.prog 8 #[.int .i64 4, .string s] w fun e w' => LibPost 4 s w e w' := by
  have H := Lib.hid h
  obtain ⟨_, hd, hs1, hs2⟩ := okLib_ways h
  have HD := Lib.hid hd
  have H2 := Lib.hid (show (s.data.toList.all digit && inR s.size 1 10) = true by rw [hd, inR_t (by omega)]; rfl)
  have hw5 : inR 4 1 5 = true := rfl
  have HX := Lib.hid (extract_take s 1)
  have hsz : (s.extract 0 1).size = 1 := by rw [← size_toList, extract_take, List.length_take, size_toList]; omega
  have hsz := Nat.le_of_eq hsz
  have i1 : (1 : Int) ≤ (s.size : Int) := by omega
  have HL := Lib.hid (arrL_length s hs2)
  have HA : (⟨(arrL s.data.toList).toArray⟩ : ByteArray).size ≤ 400 := by have := arrL_length s hs2; show (arrL s.data.toList).toArray.size ≤ _; simpa using this
  obtain ⟨AR, hAR⟩ : ∃ x, x = (⟨(arrL s.data.toList).toArray⟩ : ByteArray) := ⟨_, rfl⟩
  rw [← hAR] at HA
  have HAR := Lib.hid hAR
  have HT := Lib.hid (show AR.data.toList = arrL s.data.toList by rw [hAR])
  clear h hd hAR
  go_enter Tryd.func8, Tryd.ntmps8
  go_wp2_with (first
    | (go_at_call 31; refine (within_any _ _ _ _).mono ?_; rintro e w' ⟨rfl, rfl⟩)
    | (go_at_call 32; refine (digitsOk_is s true H2.out _ (by omega)).mono ?_; rintro e w' ⟨rfl, n, rfl⟩)
    | (go_at_call 33; refine (arrayText_any s _ (by exact ht.below ((below_drewN (Below.refl _ _) n).alloc (Nat.le_refl _) _)) hs2 HD.out).mono ?_; rintro e w1 ⟨he, hb1⟩; rw [← HAR.out] at he; obtain rfl := he; have hb1 : Below w.heap.size w w1 := ((below_drewN (Below.refl _ _) n).alloc (Nat.le_refl _) _).trans (hb1.mono (by simp))))
  refine (join_new _ _ _ [_, _, _, _, _, _] rfl _ rfl (by simp) ?hl (by simp) _).mono ?_
  case hl =>
    simp only [List.map_cons, List.map_nil, join6, tl_append, List.length_append, List.length_cons, List.length_nil, size_toList]
    simp
    omega
  rintro e w3 ⟨J, rfl, hJ, HJ, hb3⟩
  go_wp2
  go_ret2
  refine libPost_yes H.out ?_ ?_
  · rw [tl_append, HJ.out]
    simp only [List.map_cons, List.map_nil, join6, tl_append, HX.out, HT.out, libL]
    simp only [List.append_assoc]; rfl
  · exact hb1.trans (hb3.mono hb1.size)

set_option maxRecDepth 8000 in
set_option maxHeartbeats 1000000 in
theorem libSrc_5 (s : ByteArray) (w : World) (ht : TabL w) (h : okLib 5 s = true) : Calls Tryd.prog 8 #[.int .i64 5, .string s] w fun e w' => LibPost 5 s w e w' := by
  have H := Lib.hid h
  obtain ⟨_, hd, hs1, hs2⟩ := okLib_ways h
  have HD := Lib.hid hd
  have H2 := Lib.hid (show (s.data.toList.all digit && inR s.size 1 10) = true by rw [hd, inR_t (by omega)]; rfl)
  have hw5 : inR 5 1 5 = true := rfl
  have HX := Lib.hid (extract_take s 1)
  have hsz : (s.extract 0 1).size = 1 := by rw [← size_toList, extract_take, List.length_take, size_toList]; omega
  have hsz := Nat.le_of_eq hsz
  have i1 : (1 : Int) ≤ (s.size : Int) := by omega
  have HL := Lib.hid (arrL_length s hs2)
  have HA : (⟨(arrL s.data.toList).toArray⟩ : ByteArray).size ≤ 400 := by have := arrL_length s hs2; show (arrL s.data.toList).toArray.size ≤ _; simpa using this
  obtain ⟨AR, hAR⟩ : ∃ x, x = (⟨(arrL s.data.toList).toArray⟩ : ByteArray) := ⟨_, rfl⟩
  rw [← hAR] at HA
  have HAR := Lib.hid hAR
  have HT := Lib.hid (show AR.data.toList = arrL s.data.toList by rw [hAR])
  clear h hd hAR
  go_enter Tryd.func8, Tryd.ntmps8
  go_wp2_with (first
    | (go_at_call 31; refine (within_any _ _ _ _).mono ?_; rintro e w' ⟨rfl, rfl⟩)
    | (go_at_call 32; refine (digitsOk_is s true H2.out _ (by omega)).mono ?_; rintro e w' ⟨rfl, n, rfl⟩))
  go_loopw [8] (fun sv wr => ∃ (k : Nat) (acc : ByteArray), k ≤ s.size ∧ sv = .string acc ∧ acc.data.toList ++ divGo (s.data.toList.drop k) = divGo s.data.toList ∧ wr.heap[w.heap.size + 1]? = some (.stringIter s k) ∧ Below w.heap.size w wr) (fun _ wr => s.size - wr.iterPos (w.heap.size + 1))
  case atStart => exact ⟨0, _, Nat.zero_le _, rfl, by simp, by simpa using World.iter_heap ((w.drewN n).alloc (.cells #[] 9)) s 0, ((below_drewN (Below.refl _ _) n).alloc (Nat.le_refl _) _).trans ((((Below.refl _ _).alloc (Nat.le_refl _) _).mono (by simp)))⟩
  case round =>
    obtain ⟨k, acc, hk, rfl, hr, hit, hb⟩ := hrel
    have Hr := Lib.hid hr
    have hasz : acc.size ≤ 1000 := by
      have h1 := congrArg List.length hr
      have h2 := divGo_length s.data.toList
      rw [List.length_append, size_toList] at h1
      rw [size_toList] at h2
      omega
    clear hr
    by_cases hlt : k < s.size
    · have hdk := digit_b (allD_at HD.out hlt)
      have hnx := fun ty => Lib.run_next_ascii_at (P := Tryd.prog) wr (w.heap.size + 1) s k ty hit hlt (by omega)
      have hit2 := Lib.iterAt_heap wr (w.heap.size + 1) s k (k + 1) hit
      have hb2 : Below w.heap.size w (wr.iterAt (w.heap.size + 1) s (k + 1)) := Lib.below_iterAt hb (by omega) s (k + 1)
      have Hs := Lib.hid (divGo_step s hlt)
      have Hx := Lib.hid (extract_one s hlt)
      have hxs : (s.extract k (k + 1)).size = 1 := by rw [← size_toList, Hx.out]; rfl
      have hxs := Nat.le_of_eq hxs
      clear hb
      go_wp2
      go_roundw
      case rel =>
        refine ⟨k + 1, _, by omega, rfl, ?_, hit2, hb2⟩
        rw [← Hr.out, Hs.out]
        simp only [tl_append, Hx.out, List.append_assoc]
        rfl
      case measure => simp [World.iterPos, hit2, hit] <;> omega
    · have hnx := fun ty => Lib.run_next_end_at (P := Tryd.prog) wr (w.heap.size + 1) s k ty hit hlt
      have Hacc := Lib.hid (show acc.data.toList = divGo s.data.toList by have := Hr.out; rw [divGo_end s hlt, List.append_nil] at this; exact this)
      go_wp2_with fail
      refine (join_new _ _ _ [_, _] rfl _ rfl rfl ?hl (by simp) _).mono ?_
      case hl =>
        simp only [List.map_cons, List.map_nil, join2, tl_append, List.length_append, List.length_cons, List.length_nil, size_toList]
        simp
        omega
      rintro e w3 ⟨J, rfl, hJ, HJ, hb3⟩
      go_wp2
      go_ret2
      refine libPost_yes H.out ?_ ?_
      · rw [tl_append, HJ.out]
        simp only [List.map_cons, List.map_nil, join2, tl_append, Hacc.out, libL]
        simp only [List.append_assoc]; rfl
      · exact hb.trans (hb3.mono hb.size)

theorem libSource_any (k : Int) (s : ByteArray) (w : World) (hs : s.size ≤ 1048576) (ht : TabL w) : Calls Tryd.prog 8 #[.int .i64 k, .string s] w fun e w' => LibPost k s w e w' := by
  cases h : okLib k s
  · exact libSrc_no k s w hs h
  · rcases (okLib_ways h).1 with rfl | rfl | rfl | rfl | rfl
    · exact libSrc_1 s w ht h
    · exact libSrc_2 s w ht h
    · exact libSrc_3 s w ht h
    · exact libSrc_4 s w ht h
    · exact libSrc_5 s w ht h

end Go.Proofs.YtoflhemcjmhmkaaDoor
