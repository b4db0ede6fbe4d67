/- The texts of values: the program's FormatValue and the reference's. -/
import Derived.Test.YtagmokkjkmiblaaDoorVal
import Derived.Test.YtagmokkjkmiblaaDoorNum
import Derived.Deep.RegionLaw
namespace Go.Proofs.YtagmokkjkmiblaaDoor
open Go Go.RowKit

def hexD : ByteArray := ⟨#[48, 49, 50, 51, 52, 53, 54, 55, 56, 57, 97, 98, 99, 100, 101, 102]⟩
/-- A half byte's digit. -/
def hx (n : Nat) : UInt8 := hexD.data.toList.getD n 0
def hexL (l : List UInt8) : List UInt8 := l.flatMap fun b => [hx (b.toNat / 16), hx (b.toNat % 16)]
theorem hexL_length (l : List UInt8) : (hexL l).length = 2 * l.length := by
  induction l with
  | nil => rfl
  | cons b r ih => simp only [hexL, List.flatMap_cons, List.length_append, List.length_cons, List.length_nil] at *; omega

def byts (l : List UInt8) : List PT := l.map fun b => PT.int .u8 (b.toNat : Int)
theorem byts_length (l : List UInt8) : (byts l).length = l.length := by simp [byts]
theorem cellsL_byts (l : List UInt8) : PT.cellsL (byts l) = l.map fun b => Value.int .u8 (b.toNat : Int) := by
  induction l with
  | nil => rfl
  | cons z r ih => simp only [byts, List.map_cons, PT.cellsL, PT.cells] at *; rw [ih]; rfl
theorem blocksL_byts (l : List UInt8) : PT.blocksL (byts l) = [] := by
  induction l with
  | nil => rfl
  | cons z r ih => simp only [byts, List.map_cons, PT.blocksL, PT.blocks] at *; rw [ih]; rfl
theorem byts_cells (l : List UInt8) : ∀ t ∈ byts l, t.cells.length = 1 := fun t ht => by
  simp only [byts, List.mem_map] at ht; obtain ⟨z, _, rfl⟩ := ht; rfl
theorem ownL_byts (w : World) (l : List UInt8) : OwnL w (byts l) := OwnL.of_get fun t ht => by
  simp only [byts, List.mem_map] at ht; obtain ⟨z, _, rfl⟩ := ht; trivial
theorem byts_append (a b : List UInt8) : byts (a ++ b) = byts a ++ byts b := by simp [byts]
theorem Tryd.infoU8 : (Tryd.prog.info? 5).map (fun i => (i.zero, i.size, i.bytes)) = some (some (.int .u8 0), 1, 1) := by kernel_rfl
/-- 'string(b)' of a slice of bytes. -/
theorem conv_byts (src e : TypeId) (w : World) {S : Nat → Prop} (b o c n : Nat) (l : List UInt8) (hn : n = l.length) (h : Seen w S (.sl (some ⟨b, o, none⟩) c 1 (byts l))) (hs : Tryd.prog.underlying src = some (.slice e)) (he : Tryd.prog.underlying e = some (.int .u8)) :
    (convert src 9 (.slice (some ⟨b, o, none⟩) n c)).run Tryd.prog w = .ok (.string ⟨l.toArray⟩) w := by
  subst hn
  refine run_convert_bytes_back (P := Tryd.prog) _ src 9 e ⟨b, o, none⟩ c l hs he Tryd.underlying9 fun j hj => ?_
  have h1 := h.2.2.1
  rw [cellsL_byts] at h1
  obtain ⟨b', o', hA, _, hc⟩ := h1 j (.int .u8 (l[j].toNat : Int)) (by simp [hj])
  cases hA
  rw [show (⟨b, o, none⟩ : Addr).add j = ⟨b, o + j, none⟩ by unfold Addr.add; split <;> simp_all]
  exact hc

set_option maxRecDepth 8000 in
set_option maxHeartbeats 1000000 in
theorem l20Hex_any (s : ByteArray) (w : World) (hs : s.size ≤ 1048576) : Calls Tryd.prog 77 #[.string s] w fun e w' => e = .returned (.string ⟨(hexL s.data.toList).toArray⟩) ∧ Below w.heap.size w w' := by
  obtain ⟨i0, hi0, hz0, hz1, hz2⟩ := info_parts Tryd.infoU8
  go_enter Tryd.func77, Tryd.ntmps77
  go_wp2
  generalize hds : (⟨#[48, 49, 50, 51, 52, 53, 54, 55, 56, 57, 97, 98, 99, 100, 101, 102]⟩ : ByteArray) = ds
  have hd16 : ds.size = 16 := by rw [← hds]; rfl
  have Hds := Lib.hid hds
  clear hds
  go_loopw [4, 5] (fun ov iv wr => ∃ (k m g c : Nat), k ≤ s.size ∧ iv = .int .i64 k ∧ m = 2 * k ∧ ov = .slice (some ⟨g, 0, none⟩) m c ∧ Below w.heap.size w wr ∧ Owned wr (w.heap.size ≤ ·) (.sl (some ⟨g, 0, none⟩) c 1 (byts (hexL (s.data.toList.take k))))) (fun _ iv _ => s.size - (intOf iv).toNat)
  case atStart => exact ⟨0, 0, _, _, Nat.zero_le _, rfl, rfl, rfl, (Below.refl _ _).alloc (Nat.le_refl _) _, owned_made _ _ (Nat.le_refl _)⟩
  case round =>
    obtain ⟨k, m, g, c, hk, rfl, hm, rfl, hb, ho⟩ := hrel
    have hl : (byts (hexL (s.data.toList.take k))).length = m := by rw [byts_length, hexL_length, List.length_take, size_toList]; omega
    have Hl := Lib.hid hl
    have Hm := Lib.hid hm
    clear hl hm
    have hg : w.heap.size ≤ g := ho.2.2 g (by simp [PT.blocks, PT.rowOf])
    have hsz := hb.size
    by_cases hlt : k < s.size
    · have hq16 : s[k].toNat / 16 < 16 := by have := s[k].toNat_lt; omega
      have hr16 : s[k].toNat % 16 < 16 := by omega
      have hq : ((s[k].toNat : Int).tdiv 16) = ((s[k].toNat / 16 : Nat) : Int) := rfl
      have hr : ((s[k].toNat : Int).tmod 16) = ((s[k].toNat % 16 : Nat) : Int) := rfl
      have htk : hexL (s.data.toList.take (k + 1)) = hexL (s.data.toList.take k) ++ [hx (s[k].toNat / 16), hx (s[k].toNat % 16)] := by
        rw [List.take_add_one, List.getElem?_eq_getElem (by rw [size_toList]; exact hlt)]
        simp only [hexL, List.flatMap_append, Option.toList_some, List.flatMap_cons, List.flatMap_nil, List.append_nil]
        rfl
      have hds2 := Hds.out
      generalize s[k].toNat / 16 = q at hq16 hq htk
      generalize s[k].toNat % 16 = r at hr16 hr htk
      have Htk := Lib.hid htk
      clear htk
      have hqw : IntKind.u8.wrap (q : Int) = (q : Int) := by show (q : Int) % 256 = q; omega
      have hrw : IntKind.u8.wrap (r : Int) = (r : Int) := by show (r : Int) % 256 = r; omega
      have hqi : (q : Int) < 16 := by omega
      have hri : (r : Int) < 16 := by omega
      have hdq : ds[q]'(by omega) = hx q := by subst hds2; simp only [hx, List.getD_eq_getElem?_getD]; rw [List.getElem?_eq_getElem (show q < hexD.data.toList.length from hq16)]; rfl
      have hdr : ds[r]'(by omega) = hx r := by subst hds2; simp only [hx, List.getD_eq_getElem?_getD]; rw [List.getElem?_eq_getElem (show r < hexD.data.toList.length from hr16)]; rfl
      clear hds2
      have Hdq := Lib.hid hdq
      have Hdr := Lib.hid hdr
      have hsee : Sees (wr.alloc (.cells #[.int .u8 ((ds[q]'(by omega)).toNat : Int), .int .u8 ((ds[r]'(by omega)).toNat : Int)] 5)).drew (fun _ => True) (some ⟨wr.heap.size, 0, none⟩) (PT.cellsL (byts [hx q, hx r])) := by
        rw [cellsL_byts, ← hdq, ← hdr]
        exact (sees_new wr #[.int .u8 ((ds[q]'(by omega)).toNat : Int), .int .u8 ((ds[r]'(by omega)).toNat : Int)] 5).ext (fun _ _ => rfl)
      clear hdq hdr
      go_wp2
      go_region_law (first
        | (refine step_append_pt _ rfl (.tmp 13) (.tmp 26) _ rfl 5 i0 _ 1 1 Tryd.underlying87 hi0 hz0 hz1 hz2 rfl (by omega) (S := (w.heap.size ≤ ·)) (S2 := fun _ => True) (some ⟨g, 0, none⟩) (some ⟨wr.heap.size, 0, none⟩) c 2 m 2 (byts (hexL (s.data.toList.take k))) (byts [hx q, hx r]) rfl rfl (ho.ext (Ext.alloc1 _ _)) hsee Hl.out.symm rfl (byts_cells _) (ownL_byts _ _) (by simp [PT.blocks, PT.rowOf, blocksL_byts]) (by simp [blocksL_byts]) (by simp; omega) (by have := Hm.out; simp only [maxLen]; omega) (by have := Hm.out; omega) ?_; intro A5 c5 w5 ho6 ht6 hA6))
      all_goals
        go_wp2
        have hb5 : Below w.heap.size w w5 := (hb.alloc hb.size _).drew.trans (ht6.below (B := w.heap.size) (by simp; omega) (fun b hb => by simp [PT.rowOf] at hb; omega))
        obtain ⟨g5, rfl⟩ : ∃ g5, A5 = some ⟨g5, 0, none⟩ := by rcases hA6 with rfl | rfl <;> exact ⟨_, rfl⟩
        go_roundw
        case rel => exact ⟨k + 1, m + 2, g5, c5, by omega, by go_num, by have := Hm.out; omega, by go_num, hb5, by rw [Htk.out, byts_append]; exact ho6⟩
        case measure => simp [intOf]; omega
    · have hcv := conv_byts 87 5 wr g 0 c m (hexL (s.data.toList.take k)) (by rw [← Hl.out, byts_length]) ho.seen Tryd.underlying87 Tryd.underlying5
      go_wp2
      go_ret
      exact ⟨ret_str (by rw [List.take_of_length_le (by rw [size_toList]; omega)]), hb⟩
end Go.Proofs.YtagmokkjkmiblaaDoor
