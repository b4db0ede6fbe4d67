/- ParseValue: the plain law. -/
import Derived.Test.YtagmokkjkmiblaaDoorPvL
namespace Go.Proofs.YtagmokkjkmiblaaDoor
open Go Go.RowKit

theorem bytes_all {p : Nat → Bool} (h : (List.range 256).all p = true) (x : UInt8) : p x.toNat = true := List.all_eq_true.1 h x.toNat (List.mem_range.2 x.toNat_lt)
/-- The place of a byte among the hex digits, and the byte of two digits, as the program makes it. -/
def ixI (c : Int) : Int := Lib.indexByte hexD.data.toList c.toNat.toUInt8
def nib (a b : Int) : Int := IntKind.u8.wrap (orI .i64 (shlI .i64 (ixI a) 4) (ixI b))
theorem nib_bd (a b : Int) : 0 ≤ nib a b ∧ nib a b ≤ 255 := by
  unfold nib
  generalize orI .i64 (shlI .i64 (ixI a) 4) (ixI b) = x
  simp [IntKind.wrap, IntKind.bits, IntKind.signed]
  omega
def nibB (a b : Int) : UInt8 := UInt8.ofNat (nib a b).toNat
theorem nibB_toNat (a b : Int) : ((nibB a b).toNat : Int) = nib a b := by
  have := nib_bd a b
  unfold nibB
  rw [UInt8.toNat_ofNat']; omega
def imx : List UInt8 → List UInt8
  | a :: b :: r => nibB (a.toNat : Int) (b.toNat : Int) :: imx r
  | _ => []
theorem imx_len : ∀ l : List UInt8, (imx l).length ≤ l.length
  | a :: b :: r => by have := imx_len r; simp [imx]; omega
  | [] => by simp [imx]
  | [_] => by simp [imx]
theorem hexL_cons (x : UInt8) (r : List UInt8) : hexL (x :: r) = hx (x.toNat / 16) :: hx (x.toNat % 16) :: hexL r := by simp [hexL]
theorem nib_all : (List.range 256).all (fun n => decide (nib ((hx (n / 16)).toNat : Int) ((hx (n % 16)).toNat : Int) = (n : Int))) = true := by kernel_rfl
theorem hexV_all : (List.range 256).all (fun n => decide (0 ≤ hexV ((hx (n / 16)).toNat : Int)) && decide (0 ≤ hexV ((hx (n % 16)).toNat : Int)) && decide (16 * hexV ((hx (n / 16)).toNat : Int) + hexV ((hx (n % 16)).toNat : Int) = (n : Int))) = true := by kernel_rfl
theorem tag_all : (List.range 256).all (fun n => decide (Lib.indexByte [110, 98, 105, 116, 115, 99, 111, 107] n.toUInt8 = tagK (n : Int) 8)) = true := by kernel_rfl
theorem tag_ix (s : ByteArray) : Lib.indexByte [110, 98, 105, 116, 115, 99, 111, 107] (bat s 0).toNat.toUInt8 = tagK (bat s 0) 8 := by
  have := of_decide_eq_true (bytes_all tag_all (s.data.toList.getD 0 0))
  exact this
theorem imx_hexL : ∀ l : List UInt8, imx (hexL l) = l
  | [] => rfl
  | x :: r => by
    have h := of_decide_eq_true (bytes_all nib_all x)
    rw [hexL_cons, imx, imx_hexL r]
    congr 1
    unfold nibB
    rw [h]
    apply UInt8.toNat_inj.1
    rw [UInt8.toNat_ofNat']
    have := x.toNat_lt
    omega
theorem unhx_hexL : ∀ l : List UInt8, unhx (hexL l) = some l
  | [] => rfl
  | x :: r => by
    have h := bytes_all hexV_all x
    simp only [Bool.and_eq_true, decide_eq_true_eq] at h
    obtain ⟨⟨h1, h2⟩, h3⟩ := h
    rw [hexL_cons, unhx, if_neg (by omega), unhx_hexL r]
    simp only [Option.map_some]
    rw [h3]
    congr 2
    apply UInt8.toNat_inj.1
    rw [UInt8.toNat_ofNat']
    have := x.toNat_lt
    omega
theorem unhexR_hexL (x : ByteArray) : unhexR ⟨(hexL x.data.toList).toArray⟩ = (x, true) := by
  unfold unhexR
  have h1 : (⟨(hexL x.data.toList).toArray⟩ : ByteArray).data.toList = hexL x.data.toList := rfl
  rw [h1, unhx_hexL]
  have h2 : (⟨(hexL x.data.toList).toArray⟩ : ByteArray).size = 2 * x.data.toList.length := by
    show (hexL x.data.toList).toArray.size = _
    rw [List.size_toArray, hexL_length]
  simp only [h2]
  congr 1
  exact decide_eq_true (by omega)

/-- What the program takes a text for. -/
def imV (s : ByteArray) : TValue :=
  let k := tagK (bat s 0) 8
  let t := s.extract 1 s.size
  if k = 3 then ⟨k, 0, ⟨(imx t.data.toList).toArray⟩⟩
  else if k = 4 then ⟨k, 0, t⟩
  else ⟨k, anyV t, ⟨#[]⟩⟩
def imRes (s : ByteArray) : TValue × Bool := if s.size = 0 then (zeroV, false) else if (imV s).fmt = s then (imV s, true) else (zeroV, false)

theorem ext1 (x : UInt8) (b : ByteArray) : (⟨#[x]⟩ ++ b : ByteArray).extract 1 (⟨#[x]⟩ ++ b : ByteArray).size = b := by
  apply bytes_eq
  have h1 : (⟨#[x]⟩ ++ b : ByteArray).data.toList = x :: b.data.toList := by
    rw [ByteArray.data_append]; simp
  have hz : (⟨#[x]⟩ ++ b : ByteArray).size = b.data.toList.length + 1 := by rw [← size_toList, h1]; rfl
  rw [ByteArray.data_extract, Array.toList_extract, h1, hz]
  simp [List.extract]
  exact List.take_of_length_le (by rw [size_toList]; exact Nat.le_refl _)
theorem fmt_isL {v : TValue} {s : ByteArray} (h : v.fmt = s) (hz : 0 < s.size) : v.isL = true := by
  cases hl : v.isL with
  | true => rfl
  | false =>
    unfold TValue.fmt at h
    rw [if_pos hl] at h
    rw [← h] at hz
    cases hz
theorem fmt_num {k n : Int} {s : ByteArray} (hk : k = 1 ∨ k = 2 ∨ k = 5 ∨ k = 6 ∨ k = 7) (h : TValue.fmt ⟨k, n, ⟨#[]⟩⟩ = s) (hz : 0 < s.size) : numB n = s.extract 1 s.size := by
  have hl := fmt_isL h hz
  unfold TValue.fmt at h
  rw [if_neg (by rw [hl]; simp), if_neg (by dsimp only; omega), if_neg (by dsimp only; omega), if_neg (by dsimp only; omega)] at h
  rw [← h, ext1]
theorem fmt_text {x s : ByteArray} (h : TValue.fmt ⟨3, 0, x⟩ = s) (hz : 0 < s.size) : s.extract 1 s.size = ⟨(hexL x.data.toList).toArray⟩ := by
  have hl := fmt_isL h hz
  unfold TValue.fmt at h
  rw [if_neg (by rw [hl]; simp), if_neg (by dsimp only; omega), if_pos rfl] at h
  rw [← h]
  have : (⟨(116 :: hexL x.data.toList).toArray⟩ : ByteArray) = ⟨#[116]⟩ ++ ⟨(hexL x.data.toList).toArray⟩ := by
    apply bytes_eq
    rw [ByteArray.data_append]; simp
  show (⟨(116 :: hexL x.data.toList).toArray⟩ : ByteArray).extract 1 (⟨(116 :: hexL x.data.toList).toArray⟩ : ByteArray).size = _
  rw [this, ext1]
theorem fmt_nil {n : Int} {s : ByteArray} (h : TValue.fmt ⟨0, n, ⟨#[]⟩⟩ = s) (hz : 0 < s.size) : n = 0 ∧ s.extract 1 s.size = ⟨#[]⟩ := by
  have hl := fmt_isL h hz
  have h2 := hl
  unfold TValue.isL at h2
  rw [if_pos rfl] at h2
  simp only [Bool.and_eq_true, decide_eq_true_eq] at h2
  unfold TValue.fmt at h
  rw [if_neg (by rw [hl]; simp), if_pos rfl] at h
  refine ⟨h2.1, ?_⟩
  rw [← h]; rfl
theorem both (s : ByteArray) (hz : 0 < s.size) : ((pvSpec s).2 = true ∧ (pvSpec s).1.fmt = s → (pvSpec s).1 = imV s) ∧ ((imV s).fmt = s → (pvSpec s).1 = imV s ∧ (pvSpec s).2 = true) := by
  have hkb := tagK_bd (bat s 0) 8
  unfold pvSpec imV
  dsimp only
  generalize tagK (bat s 0) 8 = k at hkb ⊢
  have hcase : k = 3 ∨ k = 4 ∨ (k = 1 ∨ k = 2 ∨ k = 5 ∨ k = 6 ∨ k = 7) ∨ k = 0 ∨ k = -1 := by omega
  rcases hcase with rfl | rfl | hk | rfl | rfl
  · simp only [if_true]
    refine ⟨fun ⟨h1, h2⟩ => ?_, fun h => ?_⟩
    · have h3 := fmt_text h2 hz
      have h4 : imx (s.extract 1 s.size).data.toList = (unhexR (s.extract 1 s.size)).1.data.toList := by
        conv => lhs; rw [h3]
        exact imx_hexL _
      rw [h4]
    · have h3 := fmt_text h hz
      have h4 := unhexR_hexL ⟨(imx (s.extract 1 s.size).data.toList).toArray⟩
      rw [← h3] at h4
      rw [h4]; exact ⟨rfl, rfl⟩
  · simp
  · rw [if_neg (by omega), if_neg (by omega), if_pos hk, if_neg (by omega), if_neg (by omega)]
    dsimp only
    refine ⟨fun ⟨h1, h2⟩ => ?_, fun h => ?_⟩
    · have h3 := fmt_num hk h2 hz
      have h4 := anyV_numB _ (wholeL_bd (s.extract 1 s.size))
      rw [h3] at h4
      rw [h4]
    · have h3 := fmt_num hk h hz
      have h4 := wholeL_numB _ (anyV_bd (s.extract 1 s.size))
      rw [h3] at h4
      rw [h4]; exact ⟨rfl, rfl⟩
  · simp only [show ¬ (0 : Int) = 3 by omega, show ¬ (0 : Int) = 4 by omega, show ¬ ((0 : Int) = 1 ∨ (0 : Int) = 2 ∨ (0 : Int) = 5 ∨ (0 : Int) = 6 ∨ (0 : Int) = 7) by omega, if_false]
    refine ⟨fun ⟨_, h2⟩ => ?_, fun h => ?_⟩
    · have h3 := (fmt_nil h2 hz).2
      rw [h3, anyV_nil]
    · have h3 := (fmt_nil h hz).1
      rw [h3]; exact ⟨rfl, trivial⟩
  · simp only [show ¬ (-1 : Int) = 3 by omega, show ¬ (-1 : Int) = 4 by omega, show ¬ ((-1 : Int) = 1 ∨ (-1 : Int) = 2 ∨ (-1 : Int) = 5 ∨ (-1 : Int) = 6 ∨ (-1 : Int) = 7) by omega, if_false]
    refine ⟨fun ⟨_, h2⟩ => ?_, fun h => ?_⟩
    · exact absurd (fmt_isL h2 hz) (by simp [TValue.isL])
    · exact absurd (fmt_isL h hz) (by simp [TValue.isL])
/-- The plain law. -/
theorem pv_law (s : ByteArray) : imRes s = pvRes s (pvSpec s) := by
  unfold imRes pvRes
  by_cases hz : s.size = 0
  · rw [if_pos hz, if_pos (.inl hz)]
  · obtain ⟨h1, h2⟩ := both s (by omega)
    rw [if_neg hz]
    by_cases hf : (imV s).fmt = s
    · obtain ⟨h3, h4⟩ := h2 hf
      rw [if_pos hf, if_neg (by rw [h3, h4]; rintro (h | h | h); omega; cases h; exact h hf), h3]
    · rw [if_neg hf, if_pos]
      by_cases h5 : (pvSpec s).2 = false
      · exact .inr (.inl h5)
      · refine .inr (.inr fun h6 => hf ?_)
        rw [← h1 ⟨by simpa using h5, h6⟩]; exact h6
end Go.Proofs.YtagmokkjkmiblaaDoor
