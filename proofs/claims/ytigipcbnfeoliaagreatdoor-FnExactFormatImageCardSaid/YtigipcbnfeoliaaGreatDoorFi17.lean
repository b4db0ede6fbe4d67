/- Part 17 of the proof: the texts FmtC, FmtD. -/
import Derived.Test.YtigipcbnfeoliaaGreatDoorFi14
import Derived.Deep.RegionLaw
import Derived.Deep.RegionWith
import Derived.Laws.BitsLemmas
set_option linter.all false
set_option maxHeartbeats 1000000
set_option maxRecDepth 8000
namespace Go.Proofs.YtigipcbnfeoliaaGreatDoor
open Go Go.RowKit
theorem sv {T : Nat -> Prop} {w w' : World} {a : Addr} (h : dB T w w') (hl : a.block < w.heap.size) (hT : ¬ T a.block) : w'.cell? a = w.cell? a := by
 unfold World.cell?
 rw [h.block a.block hl hT]
theorem wk (w : World) (b : UInt8) {S : Nat -> Prop} (hS : S w.heap.size) : cf (w.alloc (.cells #[.int .u8 (b.toNat : Int)] 5)) S (.sl (some ⟨w.heap.size, 0, none⟩) 1 1 (ki [b])) :=
 ⟨ef (lZ [b]) (by rw [fX]; simp [ki]) (heap_alloc_new w _) (by simp [ki]) (by decide) (by simp) (by rw [fX]; simp [ki]) (nY _ _), by simp [PT.blocks, eb, PT.rowOf], by simpa [PT.blocks, eb, PT.rowOf] using hS⟩
theorem pW (n : Int) (t : ByteArray) (w : World) (hm : ex w) (ht : kh w) (hn0 : -9223372036854775808 <= n) (hn1 : n <= 9223372036854775807) (hs : t.size <= 1048576) (h : ab.isL ⟨3, n, t⟩ = true) :
   Calls Tryz.prog 233 #[.agg #[.int .i64 3, .int .i64 n, .string t]] w fun e w' => e = .returned (.string (ab.fmt ⟨3, n, t⟩)) /\ Below w.heap.size w w' := by
 have hM : ∀ o, ex (w.alloc o) := fun o => hm.below ((Below.refl _ _).alloc (Nat.le_refl _) o)
 have HF := Lib.hid (show ab.fmt ⟨3, n, t⟩ = _ by unfold ab.fmt; rw [if_neg (by rw [h]; decide)])
 go_enter Tryz.func233, Tryz.ntmps233
 go_wp2_with (go_at_call 223; refine (cU ⟨3, n, t⟩ _ hs (hM _)).mono ?_; rintro e w1 ⟨rfl, hb⟩; obtain ⟨p0, p1, p2, hb⟩ := wK hb)
 have hbS : w.heap.size + 1 <= w1.heap.size := by have := World.block_lt_of_cell? w1 _ p2; exact this
 obtain ⟨i0, hi0, hz0, hz1, hz2⟩ := info_parts Tryz.infoU8
 generalize hds : (⟨#[48, 49, 50, 51, 52, 53, 54, 55, 56, 57, 97, 98, 99, 100, 101, 102]⟩ : ByteArray) = ds
 have hd16 : ds.size = 16 := by rw [<- hds]; rfl
 have Hds := Lib.hid hds
 clear hds
 have hw2 : Below w.heap.size w (w1.alloc (.cells #[.int .u8 116] 5)) := hb.alloc hb.size _
 have hwn := hw2.size
 have p2' : (w1.alloc (.cells #[.int .u8 116] 5)).cell? ⟨w.heap.size, 2, none⟩ = some (.string t) := (World.cell?_alloc_lt _ _ _ (World.block_lt_of_cell? w1 _ p2)).trans p2
 have ho2 : cf (w1.alloc (.cells #[.int .u8 116] 5)) (w.heap.size + 1 <= ·) (.sl (some ⟨w1.heap.size, 0, none⟩) 1 1 (ki [116])) := wk w1 116 hbS
 clear p0 p1 p2
 generalize w1.heap.size = g0 at ho2
 generalize w1.alloc (.cells #[.int .u8 116] 5) = w3 at hw2 p2' ho2 hwn
 go_loopw [3, 4] (fun ov iv wr => ∃ (k m g c : Nat), k <= t.size /\ iv = .int .i64 k /\ m = 2 * k + 1 /\ ov = .slice (some ⟨g, 0, none⟩) m c /\ Below w.heap.size w wr /\ wr.cell? ⟨w.heap.size, 2, none⟩ = some (.string t) /\ cf wr (w.heap.size + 1 <= ·) (.sl (some ⟨g, 0, none⟩) c 1 (ki (116 :: pP (t.data.toList.take k))))) (fun _ iv _ => t.size - (intOf iv).toNat)
 case atStart => exact ⟨0, 1, _, _, Nat.zero_le _, rfl, rfl, rfl, hw2, p2', ho2⟩
 case round =>
   obtain ⟨k, m, g, c, hk, rfl, hm, rfl, hb, pt, ho⟩ := hrel
   have hl : (ki (116 :: pP (t.data.toList.take k))).length = m := by rw [iA, List.length_cons, iw, List.length_take, aO]; omega
   have Hl := Lib.hid hl
   have Hm := Lib.hid hm
   clear hl hm
   have hg : w.heap.size + 1 <= g := ho.2.2 g (by simp [PT.blocks, PT.rowOf])
   have hsz := hb.size
   have hszt := World.block_lt_of_cell? wr _ pt
   by_cases hlt : k < t.size
   ·have hq16 : t[k].toNat / 16 < 16 := by have := t[k].toNat_lt; omega
    have hr16 : t[k].toNat % 16 < 16 := by omega
    have htk : pP (t.data.toList.take (k + 1)) = pP (t.data.toList.take k) ++ [hx (t[k].toNat / 16), hx (t[k].toNat % 16)] := by
      rw [List.take_add_one, List.getElem?_eq_getElem (by rw [aO]; exact hlt)]
      simp only [pP, List.flatMap_append, Option.toList_some, List.flatMap_cons, List.flatMap_nil, List.append_nil]
      rfl
    have hds2 := Hds.out
    have hq : ((t[k].toNat : Int) / 16) = ((t[k].toNat / 16 : Nat) : Int) := rfl
    have hr : bits .and .u8 (t[k].toNat : Int) 15 = ((t[k].toNat % 16 : Nat) : Int) := u8_and15 _ (by omega) (by have := t[k].toNat_lt; omega)
    generalize t[k].toNat / 16 = q at hq16 htk hq
    generalize t[k].toNat % 16 = r at hr16 htk hr
    have Htk := Lib.hid htk
    clear htk
    have hqw : IntKind.u8.wrap (q : Int) = (q : Int) := by show (q : Int) % 256 = q; omega
    have hrw : IntKind.u8.wrap (r : Int) = (r : Int) := by show (r : Int) % 256 = r; omega
    have hqi : (q : Int) < 16 := by omega
    have hri : (r : Int) < 16 := by omega
    have hdq : ds[q]'(by omega) = hx q := by subst hds2; simp only [hx, List.getD_eq_getElem?_getD]; rw [List.getElem?_eq_getElem (show q < aeQ.data.toList.length from hq16)]; rfl
    have hdr : ds[r]'(by omega) = hx r := by subst hds2; simp only [hx, List.getD_eq_getElem?_getD]; rw [List.getElem?_eq_getElem (show r < aeQ.data.toList.length from hr16)]; rfl
    clear hds2
    have Hdq := Lib.hid hdq
    have Hdr := Lib.hid hdr
    have hsee : jG (wr.alloc (.cells #[.int .u8 ((ds[q]'(by omega)).toNat : Int), .int .u8 ((ds[r]'(by omega)).toNat : Int)] 5)).drew (fun _ => True) (some ⟨wr.heap.size, 0, none⟩) (PT.cellsL (ki [hx q, hx r])) := by
      rw [fX, <- hdq, <- hdr]
      exact (rc wr #[.int .u8 ((ds[q]'(by omega)).toNat : Int), .int .u8 ((ds[r]'(by omega)).toNat : Int)] 5).ext (fun _ _ => rfl)
    clear hdq hdr
    go_wp2
    go_region_law (first
      | (refine jO _ rfl (.tmp 22) (.tmp 35) _ rfl 5 i0 _ 1 1 Tryz.underlying220 hi0 hz0 hz1 hz2 rfl (by omega) (S := (w.heap.size + 1 <= ·)) (S2 := fun _ => True) (some ⟨g, 0, none⟩) (some ⟨wr.heap.size, 0, none⟩) c 2 m 2 (ki (116 :: pP (t.data.toList.take k))) (ki [hx q, hx r]) rfl rfl (ho.ext (Ext.alloc1 _ _)) hsee Hl.out.symm rfl (lZ _) (nY _ _) (by simp [PT.blocks, PT.rowOf, eb]) (by simp [eb]) (by simp; omega) (by have := Hm.out; simp only [maxLen]; omega) (by have := Hm.out; omega) ?_; intro A5 c5 w5 ho6 ht6 hA6))
    all_goals
      go_wp2
      have hb5 : Below w.heap.size w w5 := (hb.alloc hb.size _).drew.trans (ht6.below (B := w.heap.size) (by simp; omega) (fun b hb => by simp [PT.rowOf] at hb; omega))
      have pt5 : w5.cell? ⟨w.heap.size, 2, none⟩ = some (.string t) := (sv ht6 (by simp; omega) (by simp [PT.rowOf]; omega)).trans ((World.cell?_alloc_lt _ _ _ hszt).trans pt)
      obtain ⟨g5, rfl⟩ : ∃ g5, A5 = some ⟨g5, 0, none⟩ := by rcases hA6 with rfl | rfl <;> exact ⟨_, rfl⟩
      go_roundw
      case rel => exact ⟨k + 1, m + 2, g5, c5, by omega, by go_num, by have := Hm.out; omega, by go_num, hb5, pt5, by rw [Htk.out, <- List.cons_append, oN]; exact ho6⟩
      case measure => simp [intOf]; omega
   ·have hcv := tL 220 5 wr g 0 c m (116 :: pP (t.data.toList.take k)) (by rw [<- Hl.out, iA]) ho.seen Tryz.underlying220 Tryz.underlying5
    go_wp2
    go_ret
    exact ⟨co (by rw [HF.out, List.take_of_length_le (by rw [aO]; omega)]; rfl), hb⟩
theorem nh (x : ab) (w : World) (hm : ex w) (hs : x.text.size <= 1048576) (h : x.isL = false) :
   Calls Tryz.prog 233 #[.agg #[.int .i64 x.kind, .int .i64 x.number, .string x.text]] w fun e w' => e = .returned (.string x.fmt) /\ Below w.heap.size w w' := by
 have hM : ∀ o, ex (w.alloc o) := fun o => hm.below ((Below.refl _ _).alloc (Nat.le_refl _) o)
 have HF := Lib.hid (show x.fmt = _ by unfold ab.fmt; rw [if_pos h])
 go_enter Tryz.func233, Tryz.ntmps233
 go_wp2_with (go_at_call 223; refine (cU x _ hs (hM _)).mono ?_; rintro e w1 ⟨rfl, hb⟩; obtain ⟨p0, p1, p2, hb⟩ := wK hb)
 go_ret
 exact ⟨co (by rw [HF.out]), hb⟩
theorem oZ (x : ab) (w : World) (hm : ex w) (ht : kh w) (hx : x.sane) (hs : x.text.size <= 1048576) :
   Calls Tryz.prog 233 #[.agg #[.int .i64 x.kind, .int .i64 x.number, .string x.text]] w fun e w' => e = .returned (.string x.fmt) /\ Below w.heap.size w w' := by
 cases h : x.isL
 ·exact nh x w hm hs h
 ·obtain ⟨k, n, t⟩ := x
  have hn := hx.2.1
  simp only [i64] at hn
  obtain ⟨hn0, hn1⟩ := hn
  rcases ab.isL_kinds h with hk | hk | hk | hk | hk | hk | hk | hk
  all_goals (simp only at hk; subst hk)
  ·exact qh n t w hm ht hn0 hn1 hs h
  ·exact pH n t w hm ht hn0 hn1 hs h
  ·exact pS n t w hm ht hn0 hn1 hs h
  ·exact pW n t w hm ht hn0 hn1 hs h
  ·exact pT n t w hm ht hn0 hn1 hs h
  ·exact pQ n t w hm ht hn0 hn1 hs h
  ·exact qc n t w hm ht hn0 hn1 hs h
  ·exact qa n t w hm ht hn0 hn1 hs h
end Go.Proofs.YtigipcbnfeoliaaGreatDoor
