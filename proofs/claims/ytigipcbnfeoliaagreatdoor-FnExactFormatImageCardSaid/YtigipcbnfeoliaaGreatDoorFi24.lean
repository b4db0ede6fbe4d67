/- Part 24 of the proof: the texts FmtE. -/
import Derived.Test.YtigipcbnfeoliaaGreatDoorFi17
import Derived.Deep.RegionWith
set_option linter.all false
set_option maxHeartbeats 1000000
set_option maxRecDepth 8000
namespace Go.Proofs.YtigipcbnfeoliaaGreatDoor
open Go Go.RowKit
theorem x2 (b : UInt8) (l : List UInt8) : (⟨(b :: l).toArray⟩ : ByteArray) = ⟨#[b]⟩ ++ ⟨l.toArray⟩ := gS (by rw [ByteArray.data_append, Array.toList_append]; rfl)
theorem jF (x : ab) (w : World) (hm : ex w) (hs : x.text.size <= 1048576) (h : x.isL = false) :
   Calls Tryz.prog 148 #[.agg #[.int .i64 x.kind, .int .i64 x.number, .string x.text]] w fun e w' => e = .returned (.string x.fmt) /\ Below w.heap.size w w' := by
 have hM : ∀ o, ex (w.alloc o) := fun o => hm.below ((Below.refl _ _).alloc (Nat.le_refl _) o)
 have HF := Lib.hid (show x.fmt = _ by unfold ab.fmt; rw [if_pos h])
 go_enter Tryz.func148, Tryz.ntmps148
 go_wp2_with (go_at_call 105; refine (dq x _ hs (hM _)).mono ?_; rintro e w1 ⟨rfl, hb⟩; obtain ⟨p0, p1, p2, hb⟩ := wK hb)
 go_ret
 exact ⟨co (by rw [HF.out]), hb⟩
theorem lv (n : Int) (t : ByteArray) (w : World) (hm : ex w) (ht : kh w) (hn0 : -9223372036854775808 <= n) (hn1 : n <= 9223372036854775807) (hs : t.size <= 1048576) (h : ab.isL ⟨0, n, t⟩ = true) :
   Calls Tryz.prog 148 #[.agg #[.int .i64 0, .int .i64 n, .string t]] w fun e w' => e = .returned (.string (ab.fmt ⟨0, n, t⟩)) /\ Below w.heap.size w w' := by
 have hM : ∀ o, ex (w.alloc o) := fun o => hm.below ((Below.refl _ _).alloc (Nat.le_refl _) o)
 have HF := Lib.hid (show ab.fmt ⟨0, n, t⟩ = _ by unfold ab.fmt; rw [if_neg (by rw [h]; decide)])
 go_enter Tryz.func148, Tryz.ntmps148
 go_wp2_with (go_at_call 105; refine (dq ⟨0, n, t⟩ _ hs (hM _)).mono ?_; rintro e w1 ⟨rfl, hb⟩; obtain ⟨p0, p1, p2, hb⟩ := wK hb)
 go_ret
 exact ⟨co (by rw [HF.out]; rfl), hb⟩
theorem ll (n : Int) (t : ByteArray) (w : World) (hm : ex w) (ht : kh w) (hn0 : -9223372036854775808 <= n) (hn1 : n <= 9223372036854775807) (hs : t.size <= 1048576) (h : ab.isL ⟨4, n, t⟩ = true) :
   Calls Tryz.prog 148 #[.agg #[.int .i64 4, .int .i64 n, .string t]] w fun e w' => e = .returned (.string (ab.fmt ⟨4, n, t⟩)) /\ Below w.heap.size w w' := by
 have hM : ∀ o, ex (w.alloc o) := fun o => hm.below ((Below.refl _ _).alloc (Nat.le_refl _) o)
 have HF := Lib.hid (show ab.fmt ⟨4, n, t⟩ = _ by unfold ab.fmt; rw [if_neg (by rw [h]; decide)])
 go_enter Tryz.func148, Tryz.ntmps148
 go_wp2_with (go_at_call 105; refine (dq ⟨4, n, t⟩ _ hs (hM _)).mono ?_; rintro e w1 ⟨rfl, hb⟩; obtain ⟨p0, p1, p2, hb⟩ := wK hb)
 go_ret
 exact ⟨co (by rw [HF.out]; rfl), hb⟩
theorem lw (n : Int) (t : ByteArray) (w : World) (hm : ex w) (ht : kh w) (hn0 : -9223372036854775808 <= n) (hn1 : n <= 9223372036854775807) (hs : t.size <= 1048576) (h : ab.isL ⟨3, n, t⟩ = true) :
   Calls Tryz.prog 148 #[.agg #[.int .i64 3, .int .i64 n, .string t]] w fun e w' => e = .returned (.string (ab.fmt ⟨3, n, t⟩)) /\ Below w.heap.size w w' := by
 have hM : ∀ o, ex (w.alloc o) := fun o => hm.below ((Below.refl _ _).alloc (Nat.le_refl _) o)
 have HF := Lib.hid (show ab.fmt ⟨3, n, t⟩ = _ by unfold ab.fmt; rw [if_neg (by rw [h]; decide)])
 go_enter Tryz.func148, Tryz.ntmps148
 go_wp2_with (go_at_call 105; refine (dq ⟨3, n, t⟩ _ hs (hM _)).mono ?_; rintro e w1 ⟨rfl, hb⟩; obtain ⟨p0, p1, p2, hb⟩ := wK hb)
 have hsz : 1 + (pP t.data.toList).toArray.size <= 9223372036854775807 := by rw [List.size_toArray, iw, aO]; omega
 generalize hz : (⟨(pP t.data.toList).toArray⟩ : ByteArray) = z
 have hzz : 1 + z.size <= 9223372036854775807 := by subst hz; exact hsz
 have Hz := Lib.hid hz
 have hfi := yo t w1 hs
 rw [hz] at hfi
 clear hz hsz
 go_wp2_with (go_at_call 216; refine hfi.mono ?_; rintro e w2 ⟨rfl, hb2⟩; have hb3 := hb.trans (hb2.mono hb.size))
 go_ret
 exact ⟨co (by rw [HF.out, <- Hz.out]; exact (x2 _ _).symm), hb3⟩
theorem cj (k : Nat) (n : Int) (t : ByteArray) (w : World) (hm : ex w) (hn0 : -9223372036854775808 <= n) (hn1 : n <= 9223372036854775807) (hs : t.size <= 1048576) (h : ab.isL ⟨k, n, t⟩ = true)
   (hk0 : ¬ (k : Int) = 0) (hk3 : ¬ (k : Int) = 3) (hk4 : ¬ (k : Int) = 4) (hk7 : k <= 7) (hU : (⟨#[110, 98, 105, 116, 115, 99, 111, 107]⟩ : ByteArray).extract k (k + 1) = ⟨#[ae6 k]⟩) :
   Calls Tryz.prog 148 #[.agg #[.int .i64 k, .int .i64 n, .string t]] w fun e w' => e = .returned (.string (ab.fmt ⟨k, n, t⟩)) /\ Below w.heap.size w w' := by
 have hM : ∀ o, ex (w.alloc o) := fun o => hm.below ((Below.refl _ _).alloc (Nat.le_refl _) o)
 have hF : ab.fmt ⟨k, n, t⟩ = ⟨#[ae6 k]⟩ ++ ba n := by
   unfold ab.fmt
   rw [if_neg (by rw [h]; decide)]
   simp only [hk0, hk3, hk4, if_false]
 have HF := Lib.hid hF
 clear hF
 generalize (⟨#[ae6 k]⟩ : ByteArray) = tg at HF hU
 have htg : tg.size <= 1 := by rw [<- hU, ByteArray.size_extract]; omega
 have hsz := f5 hn0 hn1
 have hfi := fun w => gM n w hn0 hn1
 generalize ba n = z at HF hsz hfi
 have hkw : IntKind.i64.wrap ((k : Int) + 1) = ((k + 1 : Nat) : Int) := by rw [IntKind.wrap_i64]; omega
 have hki1 : ((k + 1 : Nat) : Int) <= 8 := by omega
 have hki2 : (k : Int) <= ((k + 1 : Nat) : Int) := by omega
 have hki7 : (k : Int) <= 7 := by omega
 have hks : (⟨#[110, 98, 105, 116, 115, 99, 111, 107]⟩ : ByteArray).size = 8 := rfl
 have hzz : tg.size + z.size <= 9223372036854775807 := by omega
 have hzi : (tg.size : Int) + z.size <= 9223372036854775807 := by omega
 go_enter Tryz.func148, Tryz.ntmps148
 go_wp2_with (go_at_call 105; refine (dq ⟨k, n, t⟩ _ hs (hM _)).mono ?_; rintro e w1 ⟨rfl, hb⟩; obtain ⟨p0, p1, p2, hb⟩ := wK hb)
 go_region_with (go_at_call 80; refine (hfi _).mono ?_; rintro e w2 ⟨rfl, hb2⟩; have q0 := nj (w := w1.drew) hb2 p0; have q1 := nj (w := w1.drew) hb2 p1; have hb3 := hb.drew.trans (hb2.mono hb.drew.size))
 all_goals
   go_wp2
   go_ret
   exact ⟨co (by rw [HF.out]), hb3⟩
theorem kO (n : Int) (t : ByteArray) (w : World) (hm : ex w) (_ : kh w) (hn0 : -9223372036854775808 <= n) (hn1 : n <= 9223372036854775807) (hs : t.size <= 1048576) (h : ab.isL ⟨1, n, t⟩ = true) :
   Calls Tryz.prog 148 #[.agg #[.int .i64 1, .int .i64 n, .string t]] w fun e w' => e = .returned (.string (ab.fmt ⟨1, n, t⟩)) /\ Below w.heap.size w w' :=
 cj 1 n t w hm hn0 hn1 hs h (by decide) (by decide) (by decide) (by decide) (by decide +kernel)
theorem k7 (n : Int) (t : ByteArray) (w : World) (hm : ex w) (_ : kh w) (hn0 : -9223372036854775808 <= n) (hn1 : n <= 9223372036854775807) (hs : t.size <= 1048576) (h : ab.isL ⟨2, n, t⟩ = true) :
   Calls Tryz.prog 148 #[.agg #[.int .i64 2, .int .i64 n, .string t]] w fun e w' => e = .returned (.string (ab.fmt ⟨2, n, t⟩)) /\ Below w.heap.size w w' :=
 cj 2 n t w hm hn0 hn1 hs h (by decide) (by decide) (by decide) (by decide) (by decide +kernel)
theorem kJ (n : Int) (t : ByteArray) (w : World) (hm : ex w) (_ : kh w) (hn0 : -9223372036854775808 <= n) (hn1 : n <= 9223372036854775807) (hs : t.size <= 1048576) (h : ab.isL ⟨5, n, t⟩ = true) :
   Calls Tryz.prog 148 #[.agg #[.int .i64 5, .int .i64 n, .string t]] w fun e w' => e = .returned (.string (ab.fmt ⟨5, n, t⟩)) /\ Below w.heap.size w w' :=
 cj 5 n t w hm hn0 hn1 hs h (by decide) (by decide) (by decide) (by decide) (by decide +kernel)
theorem ld (n : Int) (t : ByteArray) (w : World) (hm : ex w) (_ : kh w) (hn0 : -9223372036854775808 <= n) (hn1 : n <= 9223372036854775807) (hs : t.size <= 1048576) (h : ab.isL ⟨6, n, t⟩ = true) :
   Calls Tryz.prog 148 #[.agg #[.int .i64 6, .int .i64 n, .string t]] w fun e w' => e = .returned (.string (ab.fmt ⟨6, n, t⟩)) /\ Below w.heap.size w w' :=
 cj 6 n t w hm hn0 hn1 hs h (by decide) (by decide) (by decide) (by decide) (by decide +kernel)
theorem lj (n : Int) (t : ByteArray) (w : World) (hm : ex w) (_ : kh w) (hn0 : -9223372036854775808 <= n) (hn1 : n <= 9223372036854775807) (hs : t.size <= 1048576) (h : ab.isL ⟨7, n, t⟩ = true) :
   Calls Tryz.prog 148 #[.agg #[.int .i64 7, .int .i64 n, .string t]] w fun e w' => e = .returned (.string (ab.fmt ⟨7, n, t⟩)) /\ Below w.heap.size w w' :=
 cj 7 n t w hm hn0 hn1 hs h (by decide) (by decide) (by decide) (by decide) (by decide +kernel)
theorem jY (x : ab) (w : World) (hm : ex w) (ht : kh w) (hx : x.sane) (hs : x.text.size <= 1048576) :
   Calls Tryz.prog 148 #[.agg #[.int .i64 x.kind, .int .i64 x.number, .string x.text]] w fun e w' => e = .returned (.string x.fmt) /\ Below w.heap.size w w' := by
 cases h : x.isL
 ·exact jF x w hm hs h
 ·obtain ⟨k, n, t⟩ := x
  have hn := hx.2.1
  simp only [i64] at hn
  obtain ⟨hn0, hn1⟩ := hn
  rcases ab.isL_kinds h with hk | hk | hk | hk | hk | hk | hk | hk
  all_goals (simp only at hk; subst hk)
  ·exact lv n t w hm ht hn0 hn1 hs h
  ·exact kO n t w hm ht hn0 hn1 hs h
  ·exact k7 n t w hm ht hn0 hn1 hs h
  ·exact lw n t w hm ht hn0 hn1 hs h
  ·exact ll n t w hm ht hn0 hn1 hs h
  ·exact kJ n t w hm ht hn0 hn1 hs h
  ·exact ld n t w hm ht hn0 hn1 hs h
  ·exact lj n t w hm ht hn0 hn1 hs h
end Go.Proofs.YtigipcbnfeoliaaGreatDoor
