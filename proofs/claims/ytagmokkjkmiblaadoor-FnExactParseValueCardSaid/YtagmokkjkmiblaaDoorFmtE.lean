/- The texts of values, the reference. -/
import Derived.Test.YtagmokkjkmiblaaDoorFmtC
import Derived.Deep.RegionWith
namespace Go.Proofs.YtagmokkjkmiblaaDoor
open Go Go.RowKit

theorem cons_bytes (b : UInt8) (l : List UInt8) : (⟨(b :: l).toArray⟩ : ByteArray) = ⟨#[b]⟩ ++ ⟨l.toArray⟩ := bytes_eq (by rw [ByteArray.data_append, Array.toList_append]; rfl)

theorem specFormatValue_none (x : TValue) (w : World) (hm : MaxL w) (hs : x.text.size ≤ 1048576) (h : x.isL = false) :
    Calls Tryd.prog 48 #[.agg #[.int .i64 x.kind, .int .i64 x.number, .string x.text]] w fun e w' => e = .returned (.string x.fmt) ∧ Below w.heap.size w w' := by
  have hM : ∀ o, MaxL (w.alloc o) := fun o => hm.below ((Below.refl _ _).alloc (Nat.le_refl _) o)
  have HF := Lib.hid (show x.fmt = _ by unfold TValue.fmt; rw [if_pos h])
  go_enter Tryd.func48, Tryd.ntmps48
  go_wp2_with (go_at_call 76; refine (specIsValue_any x _ hs (hM _)).mono ?_; rintro e w1 ⟨rfl, hb⟩; obtain ⟨p0, p1, p2, hb⟩ := box3 hb)
  go_ret
  exact ⟨ret_str (by rw [HF.out]), hb⟩

set_option maxRecDepth 8000 in
set_option maxHeartbeats 1000000 in
theorem specFormatValue_k0 (n : Int) (t : ByteArray) (w : World) (hm : MaxL w) (ht : TabL w) (hn0 : -9223372036854775808 ≤ n) (hn1 : n ≤ 9223372036854775807) (hs : t.size ≤ 1048576) (h : TValue.isL ⟨0, n, t⟩ = true) :
    Calls Tryd.prog 48 #[.agg #[.int .i64 0, .int .i64 n, .string t]] w fun e w' => e = .returned (.string (TValue.fmt ⟨0, n, t⟩)) ∧ Below w.heap.size w w' := by
  have hM : ∀ o, MaxL (w.alloc o) := fun o => hm.below ((Below.refl _ _).alloc (Nat.le_refl _) o)
  have HF := Lib.hid (show TValue.fmt ⟨0, n, t⟩ = _ by unfold TValue.fmt; rw [if_neg (by rw [h]; decide)])
  go_enter Tryd.func48, Tryd.ntmps48
  go_wp2_with (go_at_call 76; refine (specIsValue_any ⟨0, n, t⟩ _ hs (hM _)).mono ?_; rintro e w1 ⟨rfl, hb⟩; obtain ⟨p0, p1, p2, hb⟩ := box3 hb)
  go_ret
  exact ⟨ret_str (by rw [HF.out]; rfl), hb⟩

set_option maxRecDepth 8000 in
set_option maxHeartbeats 1000000 in
theorem specFormatValue_k4 (n : Int) (t : ByteArray) (w : World) (hm : MaxL w) (ht : TabL w) (hn0 : -9223372036854775808 ≤ n) (hn1 : n ≤ 9223372036854775807) (hs : t.size ≤ 1048576) (h : TValue.isL ⟨4, n, t⟩ = true) :
    Calls Tryd.prog 48 #[.agg #[.int .i64 4, .int .i64 n, .string t]] w fun e w' => e = .returned (.string (TValue.fmt ⟨4, n, t⟩)) ∧ Below w.heap.size w w' := by
  have hM : ∀ o, MaxL (w.alloc o) := fun o => hm.below ((Below.refl _ _).alloc (Nat.le_refl _) o)
  have HF := Lib.hid (show TValue.fmt ⟨4, n, t⟩ = _ by unfold TValue.fmt; rw [if_neg (by rw [h]; decide)])
  go_enter Tryd.func48, Tryd.ntmps48
  go_wp2_with (go_at_call 76; refine (specIsValue_any ⟨4, n, t⟩ _ hs (hM _)).mono ?_; rintro e w1 ⟨rfl, hb⟩; obtain ⟨p0, p1, p2, hb⟩ := box3 hb)
  go_ret
  exact ⟨ret_str (by rw [HF.out]; rfl), hb⟩

set_option maxRecDepth 8000 in
set_option maxHeartbeats 1000000 in
theorem specFormatValue_k3 (n : Int) (t : ByteArray) (w : World) (hm : MaxL w) (ht : TabL w) (hn0 : -9223372036854775808 ≤ n) (hn1 : n ≤ 9223372036854775807) (hs : t.size ≤ 1048576) (h : TValue.isL ⟨3, n, t⟩ = true) :
    Calls Tryd.prog 48 #[.agg #[.int .i64 3, .int .i64 n, .string t]] w fun e w' => e = .returned (.string (TValue.fmt ⟨3, n, t⟩)) ∧ Below w.heap.size w w' := by
  have hM : ∀ o, MaxL (w.alloc o) := fun o => hm.below ((Below.refl _ _).alloc (Nat.le_refl _) o)
  have HF := Lib.hid (show TValue.fmt ⟨3, n, t⟩ = _ by unfold TValue.fmt; rw [if_neg (by rw [h]; decide)])
  go_enter Tryd.func48, Tryd.ntmps48
  go_wp2_with (go_at_call 76; refine (specIsValue_any ⟨3, n, t⟩ _ hs (hM _)).mono ?_; rintro e w1 ⟨rfl, hb⟩; obtain ⟨p0, p1, p2, hb⟩ := box3 hb)
  have hsz : 1 + (hexL t.data.toList).toArray.size ≤ 9223372036854775807 := by rw [List.size_toArray, hexL_length, size_toList]; omega
  generalize hz : (⟨(hexL t.data.toList).toArray⟩ : ByteArray) = z
  have hzz : 1 + z.size ≤ 9223372036854775807 := by subst hz; exact hsz
  have Hz := Lib.hid hz
  have hfi := l20Hex_any t w1 hs
  rw [hz] at hfi
  clear hz hsz
  go_wp2_with (go_at_call 77; refine hfi.mono ?_; rintro e w2 ⟨rfl, hb2⟩; have hb3 := hb.trans (hb2.mono hb.size))
  go_ret
  exact ⟨ret_str (by rw [HF.out, ← Hz.out]; exact (cons_bytes _ _).symm), hb3⟩

set_option maxRecDepth 8000 in
set_option maxHeartbeats 1000000 in
theorem specFormatValue_tag (k : Nat) (n : Int) (t : ByteArray) (w : World) (hm : MaxL w) (hn0 : -9223372036854775808 ≤ n) (hn1 : n ≤ 9223372036854775807) (hs : t.size ≤ 1048576) (h : TValue.isL ⟨k, n, t⟩ = true)
    (hk0 : ¬ (k : Int) = 0) (hk3 : ¬ (k : Int) = 3) (hk4 : ¬ (k : Int) = 4) (hk7 : k ≤ 7) (hU : (⟨#[110, 98, 105, 116, 115, 99, 111, 107]⟩ : ByteArray).extract k (k + 1) = ⟨#[tagL k]⟩) :
    Calls Tryd.prog 48 #[.agg #[.int .i64 k, .int .i64 n, .string t]] w fun e w' => e = .returned (.string (TValue.fmt ⟨k, n, t⟩)) ∧ Below w.heap.size w w' := by
  have hM : ∀ o, MaxL (w.alloc o) := fun o => hm.below ((Below.refl _ _).alloc (Nat.le_refl _) o)
  have hF : TValue.fmt ⟨k, n, t⟩ = ⟨#[tagL k]⟩ ++ numB n := by
    unfold TValue.fmt
    rw [if_neg (by rw [h]; decide)]
    simp only [hk0, hk3, hk4, if_false]
  have HF := Lib.hid hF
  clear hF
  generalize (⟨#[tagL k]⟩ : ByteArray) = tg at HF hU
  have htg : tg.size ≤ 1 := by rw [← hU, ByteArray.size_extract]; omega
  have hsz := numB_size hn0 hn1
  have hfi := fun w => specFormatInt_any n w hn0 hn1
  generalize numB n = z at HF hsz hfi
  have hkw : IntKind.i64.wrap ((k : Int) + 1) = ((k + 1 : Nat) : Int) := by rw [IntKind.wrap_i64]; omega
  have hki1 : ((k + 1 : Nat) : Int) ≤ 8 := by omega
  have hki2 : (k : Int) ≤ ((k + 1 : Nat) : Int) := by omega
  have hki7 : (k : Int) ≤ 7 := by omega
  have hks : (⟨#[110, 98, 105, 116, 115, 99, 111, 107]⟩ : ByteArray).size = 8 := rfl
  have hzz : tg.size + z.size ≤ 9223372036854775807 := by omega
  have hzi : (tg.size : Int) + z.size ≤ 9223372036854775807 := by omega
  go_enter Tryd.func48, Tryd.ntmps48
  go_wp2_with (go_at_call 76; refine (specIsValue_any ⟨k, n, t⟩ _ hs (hM _)).mono ?_; rintro e w1 ⟨rfl, hb⟩; obtain ⟨p0, p1, p2, hb⟩ := box3 hb)
  go_region_with (go_at_call 67; refine (hfi _).mono ?_; rintro e w2 ⟨rfl, hb2⟩; have q0 := cellB (w := w1.drew) hb2 p0; have q1 := cellB (w := w1.drew) hb2 p1; have hb3 := hb.drew.trans (hb2.mono hb.drew.size))
  all_goals
    go_wp2
    go_ret
    exact ⟨ret_str (by rw [HF.out]), hb3⟩
theorem specFormatValue_k1 (n : Int) (t : ByteArray) (w : World) (hm : MaxL w) (_ : TabL w) (hn0 : -9223372036854775808 ≤ n) (hn1 : n ≤ 9223372036854775807) (hs : t.size ≤ 1048576) (h : TValue.isL ⟨1, n, t⟩ = true) :
    Calls Tryd.prog 48 #[.agg #[.int .i64 1, .int .i64 n, .string t]] w fun e w' => e = .returned (.string (TValue.fmt ⟨1, n, t⟩)) ∧ Below w.heap.size w w' :=
  specFormatValue_tag 1 n t w hm hn0 hn1 hs h (by decide) (by decide) (by decide) (by decide) (by decide +kernel)
theorem specFormatValue_k2 (n : Int) (t : ByteArray) (w : World) (hm : MaxL w) (_ : TabL w) (hn0 : -9223372036854775808 ≤ n) (hn1 : n ≤ 9223372036854775807) (hs : t.size ≤ 1048576) (h : TValue.isL ⟨2, n, t⟩ = true) :
    Calls Tryd.prog 48 #[.agg #[.int .i64 2, .int .i64 n, .string t]] w fun e w' => e = .returned (.string (TValue.fmt ⟨2, n, t⟩)) ∧ Below w.heap.size w w' :=
  specFormatValue_tag 2 n t w hm hn0 hn1 hs h (by decide) (by decide) (by decide) (by decide) (by decide +kernel)
theorem specFormatValue_k5 (n : Int) (t : ByteArray) (w : World) (hm : MaxL w) (_ : TabL w) (hn0 : -9223372036854775808 ≤ n) (hn1 : n ≤ 9223372036854775807) (hs : t.size ≤ 1048576) (h : TValue.isL ⟨5, n, t⟩ = true) :
    Calls Tryd.prog 48 #[.agg #[.int .i64 5, .int .i64 n, .string t]] w fun e w' => e = .returned (.string (TValue.fmt ⟨5, n, t⟩)) ∧ Below w.heap.size w w' :=
  specFormatValue_tag 5 n t w hm hn0 hn1 hs h (by decide) (by decide) (by decide) (by decide) (by decide +kernel)
theorem specFormatValue_k6 (n : Int) (t : ByteArray) (w : World) (hm : MaxL w) (_ : TabL w) (hn0 : -9223372036854775808 ≤ n) (hn1 : n ≤ 9223372036854775807) (hs : t.size ≤ 1048576) (h : TValue.isL ⟨6, n, t⟩ = true) :
    Calls Tryd.prog 48 #[.agg #[.int .i64 6, .int .i64 n, .string t]] w fun e w' => e = .returned (.string (TValue.fmt ⟨6, n, t⟩)) ∧ Below w.heap.size w w' :=
  specFormatValue_tag 6 n t w hm hn0 hn1 hs h (by decide) (by decide) (by decide) (by decide) (by decide +kernel)
theorem specFormatValue_k7 (n : Int) (t : ByteArray) (w : World) (hm : MaxL w) (_ : TabL w) (hn0 : -9223372036854775808 ≤ n) (hn1 : n ≤ 9223372036854775807) (hs : t.size ≤ 1048576) (h : TValue.isL ⟨7, n, t⟩ = true) :
    Calls Tryd.prog 48 #[.agg #[.int .i64 7, .int .i64 n, .string t]] w fun e w' => e = .returned (.string (TValue.fmt ⟨7, n, t⟩)) ∧ Below w.heap.size w w' :=
  specFormatValue_tag 7 n t w hm hn0 hn1 hs h (by decide) (by decide) (by decide) (by decide) (by decide +kernel)
theorem specFormatValue_any (x : TValue) (w : World) (hm : MaxL w) (ht : TabL w) (hx : x.sane) (hs : x.text.size ≤ 1048576) :
    Calls Tryd.prog 48 #[.agg #[.int .i64 x.kind, .int .i64 x.number, .string x.text]] w fun e w' => e = .returned (.string x.fmt) ∧ Below w.heap.size w w' := by
  cases h : x.isL
  · exact specFormatValue_none x w hm hs h
  · obtain ⟨k, n, t⟩ := x
    have hn := hx.2.1
    simp only [i64] at hn
    obtain ⟨hn0, hn1⟩ := hn
    rcases TValue.isL_kinds h with hk | hk | hk | hk | hk | hk | hk | hk
    all_goals (simp only at hk; subst hk)
    · exact specFormatValue_k0 n t w hm ht hn0 hn1 hs h
    · exact specFormatValue_k1 n t w hm ht hn0 hn1 hs h
    · exact specFormatValue_k2 n t w hm ht hn0 hn1 hs h
    · exact specFormatValue_k3 n t w hm ht hn0 hn1 hs h
    · exact specFormatValue_k4 n t w hm ht hn0 hn1 hs h
    · exact specFormatValue_k5 n t w hm ht hn0 hn1 hs h
    · exact specFormatValue_k6 n t w hm ht hn0 hn1 hs h
    · exact specFormatValue_k7 n t w hm ht hn0 hn1 hs h

end Go.Proofs.YtagmokkjkmiblaaDoor
