/- Part 14 of the proof: the texts FmtB. -/
import Derived.Test.YtigipcbnfeoliaaGreatDoorFi9
import Derived.Deep.RegionWith
set_option linter.all false
set_option maxHeartbeats 1000000
set_option maxRecDepth 8000
namespace Go.Proofs.YtigipcbnfeoliaaGreatDoor
open Go Go.RowKit
theorem wK {w w' : World} {t : TypeId} {a b c : Value} (hb : Below (w.alloc (.cells #[a, b, c] t)).heap.size (w.alloc (.cells #[a, b, c] t)) w') :
   w'.cell? ⟨w.heap.size, 0, none⟩ = some a /\ w'.cell? ⟨w.heap.size, 1, none⟩ = some b /\ w'.cell? ⟨w.heap.size, 2, none⟩ = some c /\ Below w.heap.size w w' := by
 have BP := (Blk.new w t #[a, b, c]).below hb (Blk.new w t #[a, b, c]).lt
 exact ⟨BP.cell 0, BP.cell 1, BP.cell 2, ((Below.refl _ _).alloc (Nat.le_refl _) _).trans (hb.mono ((Below.refl _ _).alloc (Nat.le_refl _) _).size)⟩
theorem nj {w w' : World} {a : Addr} {v : Value} (hb : Below w.heap.size w w') (p : w.cell? a = some v) : w'.cell? a = some v := (hb.cell (World.block_lt_of_cell? w _ p)).trans p
def ae6 (k : Int) : UInt8 := if k = 1 then 98 else if k = 2 then 105 else if k = 5 then 99 else if k = 6 then 111 else 107
def ab.fmt (x : ab) : ByteArray :=
 if x.isL = false then ⟨#[]⟩
 else if x.kind = 0 then ⟨#[110]⟩
 else if x.kind = 3 then ⟨(116 :: pP x.text.data.toList).toArray⟩
 else if x.kind = 4 then ⟨#[115]⟩ ++ x.text
 else ⟨#[ae6 x.kind]⟩ ++ ba x.number
theorem ab.isL_kinds {x : ab} (h : x.isL = true) : x.kind = 0 \/ x.kind = 1 \/ x.kind = 2 \/ x.kind = 3 \/ x.kind = 4 \/ x.kind = 5 \/ x.kind = 6 \/ x.kind = 7 := by
 rcases ox x.kind with h1 | h1 | h1 | h1 | h1 | h1 | h1 | h1 | ⟨h0, h1, h2, h3, h4, h5, h6, h7⟩
 all_goals first | (simp [h1]; done) | skip
 exfalso
 simp [ab.isL, h0, h1, h2, h3, h4, h5, h6, h7] at h
theorem qh (n : Int) (t : ByteArray) (w : World) (hm : ex w) (ht : kh w) (hn0 : -9223372036854775808 <= n) (hn1 : n <= 9223372036854775807) (hs : t.size <= 1048576) (h : ab.isL ⟨0, n, t⟩ = true) :
   Calls Tryz.prog 233 #[.agg #[.int .i64 0, .int .i64 n, .string t]] w fun e w' => e = .returned (.string (ab.fmt ⟨0, n, t⟩)) /\ Below w.heap.size w w' := by
 have hM : ∀ o, ex (w.alloc o) := fun o => hm.below ((Below.refl _ _).alloc (Nat.le_refl _) o)
 have HF := Lib.hid (show ab.fmt ⟨0, n, t⟩ = _ by unfold ab.fmt; rw [if_neg (by rw [h]; decide)])
 go_enter Tryz.func233, Tryz.ntmps233
 go_wp2_with (go_at_call 223; refine (cU ⟨0, n, t⟩ _ hs (hM _)).mono ?_; rintro e w1 ⟨rfl, hb⟩; obtain ⟨p0, p1, p2, hb⟩ := wK hb)
 go_ret
 exact ⟨co (by rw [HF.out]; rfl), hb⟩
theorem pT (n : Int) (t : ByteArray) (w : World) (hm : ex w) (ht : kh w) (hn0 : -9223372036854775808 <= n) (hn1 : n <= 9223372036854775807) (hs : t.size <= 1048576) (h : ab.isL ⟨4, n, t⟩ = true) :
   Calls Tryz.prog 233 #[.agg #[.int .i64 4, .int .i64 n, .string t]] w fun e w' => e = .returned (.string (ab.fmt ⟨4, n, t⟩)) /\ Below w.heap.size w w' := by
 have hM : ∀ o, ex (w.alloc o) := fun o => hm.below ((Below.refl _ _).alloc (Nat.le_refl _) o)
 have HF := Lib.hid (show ab.fmt ⟨4, n, t⟩ = _ by unfold ab.fmt; rw [if_neg (by rw [h]; decide)])
 go_enter Tryz.func233, Tryz.ntmps233
 go_wp2_with (go_at_call 223; refine (cU ⟨4, n, t⟩ _ hs (hM _)).mono ?_; rintro e w1 ⟨rfl, hb⟩; obtain ⟨p0, p1, p2, hb⟩ := wK hb)
 go_ret
 exact ⟨co (by rw [HF.out]; rfl), hb⟩
theorem pH (n : Int) (t : ByteArray) (w : World) (hm : ex w) (ht : kh w) (hn0 : -9223372036854775808 <= n) (hn1 : n <= 9223372036854775807) (hs : t.size <= 1048576) (h : ab.isL ⟨1, n, t⟩ = true) :
   Calls Tryz.prog 233 #[.agg #[.int .i64 1, .int .i64 n, .string t]] w fun e w' => e = .returned (.string (ab.fmt ⟨1, n, t⟩)) /\ Below w.heap.size w w' := by
 have hM : ∀ o, ex (w.alloc o) := fun o => hm.below ((Below.refl _ _).alloc (Nat.le_refl _) o)
 have HF := Lib.hid (show ab.fmt ⟨1, n, t⟩ = _ by unfold ab.fmt; rw [if_neg (by rw [h]; decide)])
 go_enter Tryz.func233, Tryz.ntmps233
 go_wp2_with (go_at_call 223; refine (cU ⟨1, n, t⟩ _ hs (hM _)).mono ?_; rintro e w1 ⟨rfl, hb⟩; obtain ⟨p0, p1, p2, hb⟩ := wK hb)
 have hsz := f5 hn0 hn1
 have hU : Utf8.encode ((((⟨#[110, 98, 105, 32, 32, 99, 111, 107]⟩ : ByteArray)[1]).toNat : Int)) = ⟨#[98]⟩ := by decide +kernel
 go_region_with (go_at_call 83; refine (dA n _ (kh.below ht hb.drew) hn0 hn1).mono ?_; rintro e w2 ⟨rfl, hb2⟩; have q0 := nj (w := w1.drew) hb2 p0; have q1 := nj (w := w1.drew) hb2 p1; have hb3 := hb.drew.trans (hb2.mono hb.drew.size))
 all_goals
   go_wp2
   go_ret
   exact ⟨co (by rw [HF.out]; rfl), hb3⟩
theorem pS (n : Int) (t : ByteArray) (w : World) (hm : ex w) (ht : kh w) (hn0 : -9223372036854775808 <= n) (hn1 : n <= 9223372036854775807) (hs : t.size <= 1048576) (h : ab.isL ⟨2, n, t⟩ = true) :
   Calls Tryz.prog 233 #[.agg #[.int .i64 2, .int .i64 n, .string t]] w fun e w' => e = .returned (.string (ab.fmt ⟨2, n, t⟩)) /\ Below w.heap.size w w' := by
 have hM : ∀ o, ex (w.alloc o) := fun o => hm.below ((Below.refl _ _).alloc (Nat.le_refl _) o)
 have HF := Lib.hid (show ab.fmt ⟨2, n, t⟩ = _ by unfold ab.fmt; rw [if_neg (by rw [h]; decide)])
 go_enter Tryz.func233, Tryz.ntmps233
 go_wp2_with (go_at_call 223; refine (cU ⟨2, n, t⟩ _ hs (hM _)).mono ?_; rintro e w1 ⟨rfl, hb⟩; obtain ⟨p0, p1, p2, hb⟩ := wK hb)
 have hsz := f5 hn0 hn1
 have hU : Utf8.encode ((((⟨#[110, 98, 105, 32, 32, 99, 111, 107]⟩ : ByteArray)[2]).toNat : Int)) = ⟨#[105]⟩ := by decide +kernel
 go_region_with (go_at_call 83; refine (dA n _ (kh.below ht hb.drew) hn0 hn1).mono ?_; rintro e w2 ⟨rfl, hb2⟩; have q0 := nj (w := w1.drew) hb2 p0; have q1 := nj (w := w1.drew) hb2 p1; have hb3 := hb.drew.trans (hb2.mono hb.drew.size))
 all_goals
   go_wp2
   go_ret
   exact ⟨co (by rw [HF.out]; rfl), hb3⟩
theorem pQ (n : Int) (t : ByteArray) (w : World) (hm : ex w) (ht : kh w) (hn0 : -9223372036854775808 <= n) (hn1 : n <= 9223372036854775807) (hs : t.size <= 1048576) (h : ab.isL ⟨5, n, t⟩ = true) :
   Calls Tryz.prog 233 #[.agg #[.int .i64 5, .int .i64 n, .string t]] w fun e w' => e = .returned (.string (ab.fmt ⟨5, n, t⟩)) /\ Below w.heap.size w w' := by
 have hM : ∀ o, ex (w.alloc o) := fun o => hm.below ((Below.refl _ _).alloc (Nat.le_refl _) o)
 have HF := Lib.hid (show ab.fmt ⟨5, n, t⟩ = _ by unfold ab.fmt; rw [if_neg (by rw [h]; decide)])
 go_enter Tryz.func233, Tryz.ntmps233
 go_wp2_with (go_at_call 223; refine (cU ⟨5, n, t⟩ _ hs (hM _)).mono ?_; rintro e w1 ⟨rfl, hb⟩; obtain ⟨p0, p1, p2, hb⟩ := wK hb)
 have hsz := f5 hn0 hn1
 have hU : Utf8.encode ((((⟨#[110, 98, 105, 32, 32, 99, 111, 107]⟩ : ByteArray)[5]).toNat : Int)) = ⟨#[99]⟩ := by decide +kernel
 go_region_with (go_at_call 83; refine (dA n _ (kh.below ht hb.drew) hn0 hn1).mono ?_; rintro e w2 ⟨rfl, hb2⟩; have q0 := nj (w := w1.drew) hb2 p0; have q1 := nj (w := w1.drew) hb2 p1; have hb3 := hb.drew.trans (hb2.mono hb.drew.size))
 all_goals
   go_wp2
   go_ret
   exact ⟨co (by rw [HF.out]; rfl), hb3⟩
theorem qc (n : Int) (t : ByteArray) (w : World) (hm : ex w) (ht : kh w) (hn0 : -9223372036854775808 <= n) (hn1 : n <= 9223372036854775807) (hs : t.size <= 1048576) (h : ab.isL ⟨6, n, t⟩ = true) :
   Calls Tryz.prog 233 #[.agg #[.int .i64 6, .int .i64 n, .string t]] w fun e w' => e = .returned (.string (ab.fmt ⟨6, n, t⟩)) /\ Below w.heap.size w w' := by
 have hM : ∀ o, ex (w.alloc o) := fun o => hm.below ((Below.refl _ _).alloc (Nat.le_refl _) o)
 have HF := Lib.hid (show ab.fmt ⟨6, n, t⟩ = _ by unfold ab.fmt; rw [if_neg (by rw [h]; decide)])
 go_enter Tryz.func233, Tryz.ntmps233
 go_wp2_with (go_at_call 223; refine (cU ⟨6, n, t⟩ _ hs (hM _)).mono ?_; rintro e w1 ⟨rfl, hb⟩; obtain ⟨p0, p1, p2, hb⟩ := wK hb)
 have hsz := f5 hn0 hn1
 have hU : Utf8.encode ((((⟨#[110, 98, 105, 32, 32, 99, 111, 107]⟩ : ByteArray)[6]).toNat : Int)) = ⟨#[111]⟩ := by decide +kernel
 go_region_with (go_at_call 83; refine (dA n _ (kh.below ht hb.drew) hn0 hn1).mono ?_; rintro e w2 ⟨rfl, hb2⟩; have q0 := nj (w := w1.drew) hb2 p0; have q1 := nj (w := w1.drew) hb2 p1; have hb3 := hb.drew.trans (hb2.mono hb.drew.size))
 all_goals
   go_wp2
   go_ret
   exact ⟨co (by rw [HF.out]; rfl), hb3⟩
theorem qa (n : Int) (t : ByteArray) (w : World) (hm : ex w) (ht : kh w) (hn0 : -9223372036854775808 <= n) (hn1 : n <= 9223372036854775807) (hs : t.size <= 1048576) (h : ab.isL ⟨7, n, t⟩ = true) :
   Calls Tryz.prog 233 #[.agg #[.int .i64 7, .int .i64 n, .string t]] w fun e w' => e = .returned (.string (ab.fmt ⟨7, n, t⟩)) /\ Below w.heap.size w w' := by
 have hM : ∀ o, ex (w.alloc o) := fun o => hm.below ((Below.refl _ _).alloc (Nat.le_refl _) o)
 have HF := Lib.hid (show ab.fmt ⟨7, n, t⟩ = _ by unfold ab.fmt; rw [if_neg (by rw [h]; decide)])
 go_enter Tryz.func233, Tryz.ntmps233
 go_wp2_with (go_at_call 223; refine (cU ⟨7, n, t⟩ _ hs (hM _)).mono ?_; rintro e w1 ⟨rfl, hb⟩; obtain ⟨p0, p1, p2, hb⟩ := wK hb)
 have hsz := f5 hn0 hn1
 have hU : Utf8.encode ((((⟨#[110, 98, 105, 32, 32, 99, 111, 107]⟩ : ByteArray)[7]).toNat : Int)) = ⟨#[107]⟩ := by decide +kernel
 go_region_with (go_at_call 83; refine (dA n _ (kh.below ht hb.drew) hn0 hn1).mono ?_; rintro e w2 ⟨rfl, hb2⟩; have q0 := nj (w := w1.drew) hb2 p0; have q1 := nj (w := w1.drew) hb2 p1; have hb3 := hb.drew.trans (hb2.mono hb.drew.size))
 all_goals
   go_wp2
   go_ret
   exact ⟨co (by rw [HF.out]; rfl), hb3⟩
end Go.Proofs.YtigipcbnfeoliaaGreatDoor
