/- Part 9 of the proof: the texts Val, FmtA. -/
import Derived.Test.YtigipcbnfeoliaaGreatDoorFi5
import Derived.Test.YtigipcbnfeoliaaGreatDoorFi1
import Derived.Test.YtigipcbnfeoliaaGreatDoorFi4
import Derived.Deep.RegionLaw
set_option linter.all false
set_option maxHeartbeats 1000000
set_option maxRecDepth 8000
namespace Go.Proofs.YtigipcbnfeoliaaGreatDoor
open Go Go.RowKit
def txt (b : UInt8) : Bool := inR (b.toNat : Int) 32 126
def jc (l : List UInt8) : Bool := l.all txt && decide (l.length <= 200)
theorem xG (s : ByteArray) {k : Nat} (h : k < s.size) : (s.data.toList.drop k).all txt = (txt s[k] && (s.data.toList.drop (k + 1)).all txt) := by
 rw [k8 s h, List.all_cons]
theorem aby (s : ByteArray) {k : Nat} (h : ¬ k < s.size) : (s.data.toList.drop k).all txt = true := by
 rw [List.drop_eq_nil_of_le (by rw [aO]; omega)]; rfl
theorem yq (s : ByteArray) (w : World) (hs : s.size <= 1048576) : Calls Tryz.prog 155 #[.string s] w fun e w' => e = .returned (.bool (jc s.data.toList)) /\ ∃ n, w' = w.drewN n := by
 go_enter Tryz.func155, Tryz.ntmps155
 go_wp2
 go_loopw [3] (fun i wr => ∃ k n : Nat, k <= s.size /\ i = .int .i64 k /\ wr = w.drewN n /\ s.data.toList.all txt = (s.data.toList.drop k).all txt) (fun i _ => s.size - (intOf i).toNat)
 case atStart => exact ⟨0, 0, Nat.zero_le _, rfl, rfl, rfl⟩
 case round =>
   obtain ⟨k, n, hk, rfl, rfl, hr⟩ := hrel
   have Hr := Lib.hid hr
   clear hr
   by_cases hlt : k < s.size
   ·have Hd := Lib.hid (xG s hlt)
    have hb0 : (0 : Int) <= (s[k].toNat : Int) := by omega
    have hb1 : (s[k].toNat : Int) <= 255 := by have := s[k].toNat_lt; omega
    cases hl : inR (s[k].toNat : Int) 32 126
    all_goals
      go_wp2_with (go_at_call 47; refine (gE _ _ _ _).mono ?_; rintro e w' ⟨rfl, rfl⟩)
      first
        | (
            go_roundw
            case rel => exact ⟨k + 1, n, by omega, by go_num, rfl, by rw [Hr.out, Hd.out, txt, hl]; rfl⟩
            case measure => simp [intOf]; omega)
        | (
            go_ret
            exact ⟨aN (by rw [jc, Hr.out, Hd.out, txt, hl]; rfl), n, rfl⟩)
   ·have hl := aO s
    have Hl := Lib.hid hl
    clear hl
    by_cases h2 : s.size <= 200
    all_goals
      go_wp2
      go_ret
      exact ⟨aN (by rw [jc, Hr.out, aby s hlt, Hl.out]; simp <;> omega), n, rfl⟩
def ab.isL (x : ab) : Bool :=
 if x.kind = 0 then decide (x.number = 0) && x.text.toList.isEmpty
 else if x.kind = 1 then inR x.number 0 1 && x.text.toList.isEmpty
 else if x.kind = 2 then inR x.number (-999999999) 999999999 && x.text.toList.isEmpty
 else if x.kind = 3 then decide (x.number = 0) && jc x.text.data.toList
 else if x.kind = 4 then decide (x.number = 0) && cy x.text.data.toList
 else if x.kind = 5 \/ x.kind = 6 \/ x.kind = 7 then decide (0 <= x.number) && x.text.toList.isEmpty
 else false
theorem ox (k : Int) : k = 0 \/ k = 1 \/ k = 2 \/ k = 3 \/ k = 4 \/ k = 5 \/ k = 6 \/ k = 7 \/ (¬ k = 0 /\ ¬ k = 1 /\ ¬ k = 2 /\ ¬ k = 3 /\ ¬ k = 4 /\ ¬ k = 5 /\ ¬ k = 6 /\ ¬ k = 7) := by omega
theorem cU (x : ab) (w : World) (hs : x.text.size <= 1048576) (hm : ex w) : Calls Tryz.prog 223 #[.agg #[.int .i64 x.kind, .int .i64 x.number, .string x.text]] w fun e w' => e = .returned (.bool x.isL) /\ Below w.heap.size w w' := by
 have hA : ∀ o, Below w.heap.size w (w.alloc o) := fun o => (Below.refl _ _).alloc (Nat.le_refl _) o
 have hM : ∀ o, ex (w.alloc o) := fun o => hm.below (hA o)
 have hz : ∀ o, w.heap.size <= (w.alloc o).heap.size := fun o => (hA o).size
 have HI := Lib.hid (rfl : x.isL = x.isL)
 conv at HI => arg 1; rhs; unfold ab.isL
 rcases ox x.kind with h | h | h | h | h | h | h | h | ⟨h0, h1, h2, h3, h4, h5, h6, h7⟩
 ·skip
  all_goals cases he : x.text.toList.isEmpty
  all_goals by_cases hn : x.number = 0
  all_goals
    go_enter Tryz.func223, Tryz.ntmps223
    go_wp2
    go_ret
    exact ⟨aN (by rw [HI.out]; simp [*]), hA _⟩
 ·skip
  all_goals cases he : x.text.toList.isEmpty
  all_goals cases hr : inR x.number 0 1
  all_goals
    go_enter Tryz.func223, Tryz.ntmps223
    go_wp2_with (first | (go_at_call 47; refine (gE _ _ _ _).mono ?_; rintro e w' ⟨rfl, rfl⟩))
    go_ret
    exact ⟨aN (by rw [HI.out]; simp [*]), hA _⟩
 ·skip
  all_goals cases he : x.text.toList.isEmpty
  all_goals cases hr : inR x.number (-999999999) 999999999
  all_goals
    go_enter Tryz.func223, Tryz.ntmps223
    go_wp2_with (first | (go_at_call 47; refine (gE _ _ _ _).mono ?_; rintro e w' ⟨rfl, rfl⟩))
    go_ret
    exact ⟨aN (by rw [HI.out]; simp [*]), hA _⟩
 ·skip
  all_goals by_cases hn : x.number = 0
  all_goals
    go_enter Tryz.func223, Tryz.ntmps223
    go_wp2_with (first | (go_at_call 155; refine (yq _ _ hs).mono ?_; rintro e w' ⟨rfl, n, rfl⟩))
    go_ret
    exact ⟨aN (by rw [HI.out]; simp [*]), by first | exact hA _ | exact aU (hA _) _⟩
 ·skip
  all_goals by_cases hn : x.number = 0
  all_goals
    go_enter Tryz.func223, Tryz.ntmps223
    go_wp2_with (first | (go_at_call 218; refine (jL _ _ hs (hM _)).mono ?_; rintro e w' ⟨rfl, hb⟩))
    go_ret
    first | exact ⟨aN (by rw [HI.out]; simp [*]), hA _⟩ | exact ⟨aN (by rw [HI.out]; simp [*]), (hA _).trans (hb.mono (hz _))⟩
 ·skip
  all_goals cases he : x.text.toList.isEmpty
  all_goals by_cases hn : 0 <= x.number
  all_goals
    go_enter Tryz.func223, Tryz.ntmps223
    go_wp2
    go_ret
    exact ⟨aN (by rw [HI.out]; simp [*]), hA _⟩
 ·skip
  all_goals cases he : x.text.toList.isEmpty
  all_goals by_cases hn : 0 <= x.number
  all_goals
    go_enter Tryz.func223, Tryz.ntmps223
    go_wp2
    go_ret
    exact ⟨aN (by rw [HI.out]; simp [*]), hA _⟩
 ·skip
  all_goals cases he : x.text.toList.isEmpty
  all_goals by_cases hn : 0 <= x.number
  all_goals
    go_enter Tryz.func223, Tryz.ntmps223
    go_wp2
    go_ret
    exact ⟨aN (by rw [HI.out]; simp [*]), hA _⟩
 ·skip
  all_goals
    go_enter Tryz.func223, Tryz.ntmps223
    go_wp2
    go_ret
    exact ⟨aN (by rw [HI.out]; simp [*]), hA _⟩
theorem ng (s : ByteArray) (w : World) (hl : s.size <= 200) : Calls Tryz.prog 105 #[.agg #[.int .i64 3, .int .i64 0, .string s]] w fun e w' => e = .returned (.bool (jc s.data.toList)) /\ Below w.heap.size w w' := by
 go_enter Tryz.func105, Tryz.ntmps105
 go_wp2
 have hBx := Blk.new w 51 #[.int .i64 3, .int .i64 0, .string s]
 have hc2 := hBx.cell 2
 have hbel : Below w.heap.size w (w.alloc (.cells #[.int .i64 3, .int .i64 0, .string s] 51)) := (Below.refl _ _).alloc (Nat.le_refl _) _
 rw [show (#[Value.int .i64 3, .int .i64 0, .string s] : Array Value)[2]? = some (.string s) from rfl] at hc2
 clear hBx
 generalize (w.alloc (.cells #[.int .i64 3, .int .i64 0, .string s] 51)) = w1 at hbel hc2 |-
 go_loopw [3] (fun i wr => ∃ k : Nat, k <= s.size /\ i = .int .i64 k /\ wr = w1 /\ s.data.toList.all txt = (s.data.toList.drop k).all txt) (fun i _ => s.size - (intOf i).toNat)
 case atStart => exact ⟨0, Nat.zero_le _, rfl, rfl, rfl⟩
 case round =>
   obtain ⟨k, hk, rfl, rfl, hr⟩ := hrel
   have Hr := Lib.hid hr
   clear hr
   by_cases hlt : k < s.size
   ·have Hd := Lib.hid (xG s hlt)
    by_cases h32 : s[k].toNat < 32
    all_goals by_cases h126 : 126 < s[k].toNat
    all_goals first | (exfalso; omega) | skip
    all_goals
      go_wp2
      first
        | (
            go_roundw
            case rel => exact ⟨k + 1, by omega, by go_num, trivial, by rw [Hr.out, Hd.out, txt, ti (by omega)]; rfl⟩
            case measure => simp [intOf]; omega)
        | (
            go_ret
            exact ⟨aN (by rw [jc, Hr.out, Hd.out, txt, abb (by omega)]; rfl), hbel⟩)
   ·go_wp2
    go_ret
    exact ⟨aN (by rw [jc, Hr.out, aby _ hlt, aO]; simp [hl]), hbel⟩
theorem dq (x : ab) (w : World) (hs : x.text.size <= 1048576) (hm : ex w) : Calls Tryz.prog 105 #[.agg #[.int .i64 x.kind, .int .i64 x.number, .string x.text]] w fun e w' => e = .returned (.bool x.isL) /\ Below w.heap.size w w' := by
 have hA : ∀ o, Below w.heap.size w (w.alloc o) := fun o => (Below.refl _ _).alloc (Nat.le_refl _) o
 have hM : ∀ o, ex (w.alloc o) := fun o => hm.below (hA o)
 have hz : ∀ o, w.heap.size <= (w.alloc o).heap.size := fun o => (hA o).size
 have HI := Lib.hid (rfl : x.isL = x.isL)
 conv at HI => arg 1; rhs; unfold ab.isL
 rcases ox x.kind with h | h | h | h | h | h | h | h | ⟨h0, h1, h2, h3, h4, h5, h6, h7⟩
 ·skip
  all_goals cases he : x.text.toList.isEmpty
  all_goals by_cases hn : x.number = 0
  all_goals
    go_enter Tryz.func105, Tryz.ntmps105
    go_wp2
    go_ret
    exact ⟨aN (by rw [HI.out]; simp [*]), hA _⟩
 ·skip
  all_goals cases he : x.text.toList.isEmpty
  all_goals cases hr : inR x.number 0 1
  all_goals
    go_enter Tryz.func105, Tryz.ntmps105
    go_wp2_with (first | (go_at_call 103; refine (xO _ _ _ _).mono ?_; rintro e w' ⟨rfl, rfl⟩))
    go_ret
    exact ⟨aN (by rw [HI.out]; simp [*]), hA _⟩
 ·skip
  all_goals cases he : x.text.toList.isEmpty
  all_goals cases hr : inR x.number (-999999999) 999999999
  all_goals
    go_enter Tryz.func105, Tryz.ntmps105
    go_wp2_with (first | (go_at_call 103; refine (xO _ _ _ _).mono ?_; rintro e w' ⟨rfl, rfl⟩))
    go_ret
    exact ⟨aN (by rw [HI.out]; simp [*]), hA _⟩
 ·skip
  by_cases hn : x.number = 0
  all_goals by_cases hl : x.text.size <= 200
  ·rw [h, hn]
   refine (ng x.text w hl).mono ?_
   rintro e w' ⟨rfl, hb⟩
   exact ⟨aN (by rw [HI.out]; simp [h, hn]), hb⟩
  all_goals
    go_enter Tryz.func105, Tryz.ntmps105
    go_wp2
    go_ret
    exact ⟨aN (by rw [HI.out]; simp [h, hn, hl, jc]), hA _⟩
 ·skip
  all_goals by_cases hn : x.number = 0
  all_goals
    go_enter Tryz.func105, Tryz.ntmps105
    go_wp2_with (first | (go_at_call 193; refine (dk _ _ hs).mono ?_; rintro e w' ⟨rfl, hb⟩))
    go_ret
    first | exact ⟨aN (by rw [HI.out]; simp [*]), hA _⟩ | exact ⟨aN (by rw [HI.out]; simp [*]), (hA _).trans (hb.mono (hz _))⟩
 ·skip
  all_goals cases he : x.text.toList.isEmpty
  all_goals by_cases hn : 0 <= x.number
  all_goals
    go_enter Tryz.func105, Tryz.ntmps105
    go_wp2
    go_ret
    exact ⟨aN (by rw [HI.out]; simp [*]), hA _⟩
 ·skip
  all_goals cases he : x.text.toList.isEmpty
  all_goals by_cases hn : 0 <= x.number
  all_goals
    go_enter Tryz.func105, Tryz.ntmps105
    go_wp2
    go_ret
    exact ⟨aN (by rw [HI.out]; simp [*]), hA _⟩
 ·skip
  all_goals cases he : x.text.toList.isEmpty
  all_goals by_cases hn : 0 <= x.number
  all_goals
    go_enter Tryz.func105, Tryz.ntmps105
    go_wp2
    go_ret
    exact ⟨aN (by rw [HI.out]; simp [*]), hA _⟩
 ·skip
  all_goals
    go_enter Tryz.func105, Tryz.ntmps105
    go_wp2
    go_ret
    exact ⟨aN (by rw [HI.out]; simp [*]), hA _⟩
def aeQ : ByteArray := ⟨#[48, 49, 50, 51, 52, 53, 54, 55, 56, 57, 97, 98, 99, 100, 101, 102]⟩
def hx (n : Nat) : UInt8 := aeQ.data.toList.getD n 0
def pP (l : List UInt8) : List UInt8 := l.flatMap fun b => [hx (b.toNat / 16), hx (b.toNat % 16)]
theorem iw (l : List UInt8) : (pP l).length = 2 * l.length := by
 induction l with
 | nil => rfl
 | cons b r ih => simp only [pP, List.flatMap_cons, List.length_append, List.length_cons, List.length_nil] at *; omega
def ki (l : List UInt8) : List PT := l.map fun b => PT.int .u8 (b.toNat : Int)
theorem iA (l : List UInt8) : (ki l).length = l.length := by simp [ki]
theorem fX (l : List UInt8) : PT.cellsL (ki l) = l.map fun b => Value.int .u8 (b.toNat : Int) := by
 induction l with
 | nil => rfl
 | cons z r ih => simp only [ki, List.map_cons, PT.cellsL, PT.cells] at *; rw [ih]; rfl
theorem eb (l : List UInt8) : PT.blocksL (ki l) = [] := by
 induction l with
 | nil => rfl
 | cons z r ih => simp only [ki, List.map_cons, PT.blocksL, PT.blocks] at *; rw [ih]; rfl
theorem lZ (l : List UInt8) : ∀ t ∈ ki l, t.cells.length = 1 := fun t ht => by
 simp only [ki, List.mem_map] at ht; obtain ⟨z, _, rfl⟩ := ht; rfl
theorem nY (w : World) (l : List UInt8) : iK w (ki l) := iK.of_get fun t ht => by
 simp only [ki, List.mem_map] at ht; obtain ⟨z, _, rfl⟩ := ht; trivial
theorem oN (a b : List UInt8) : ki (a ++ b) = ki a ++ ki b := by simp [ki]
theorem Tryz.infoU8 : (Tryz.prog.info? 5).map (fun i => (i.zero, i.size, i.bytes)) = some (some (.int .u8 0), 1, 1) := by kernel_rfl
theorem tL (src e : TypeId) (w : World) {S : Nat -> Prop} (b o c n : Nat) (l : List UInt8) (hn : n = l.length) (h : d9 w S (.sl (some ⟨b, o, none⟩) c 1 (ki l))) (hs : Tryz.prog.underlying src = some (.slice e)) (he : Tryz.prog.underlying e = some (.int .u8)) :
   (convert src 9 (.slice (some ⟨b, o, none⟩) n c)).run Tryz.prog w = .ok (.string ⟨l.toArray⟩) w := by
 subst hn
 refine run_convert_bytes_back (P := Tryz.prog) _ src 9 e ⟨b, o, none⟩ c l hs he Tryz.underlying9 fun j hj => ?_
 have h1 := h.2.2.1
 rw [fX] at h1
 obtain ⟨b', o', hA, _, hc⟩ := h1 j (.int .u8 (l[j].toNat : Int)) (by simp [hj])
 cases hA
 rw [show (⟨b, o, none⟩ : Addr).add j = ⟨b, o + j, none⟩ by unfold Addr.add; split <;> simp_all]
 exact hc
theorem yo (s : ByteArray) (w : World) (hs : s.size <= 1048576) : Calls Tryz.prog 216 #[.string s] w fun e w' => e = .returned (.string ⟨(pP s.data.toList).toArray⟩) /\ Below w.heap.size w w' := by
 obtain ⟨i0, hi0, hz0, hz1, hz2⟩ := info_parts Tryz.infoU8
 go_enter Tryz.func216, Tryz.ntmps216
 go_wp2
 generalize hds : (⟨#[48, 49, 50, 51, 52, 53, 54, 55, 56, 57, 97, 98, 99, 100, 101, 102]⟩ : ByteArray) = ds
 have hd16 : ds.size = 16 := by rw [<- hds]; rfl
 have Hds := Lib.hid hds
 clear hds
 go_loopw [4, 5] (fun ov iv wr => ∃ (k m g c : Nat), k <= s.size /\ iv = .int .i64 k /\ m = 2 * k /\ ov = .slice (some ⟨g, 0, none⟩) m c /\ Below w.heap.size w wr /\ cf wr (w.heap.size <= ·) (.sl (some ⟨g, 0, none⟩) c 1 (ki (pP (s.data.toList.take k))))) (fun _ iv _ => s.size - (intOf iv).toNat)
 case atStart => exact ⟨0, 0, _, _, Nat.zero_le _, rfl, rfl, rfl, (Below.refl _ _).alloc (Nat.le_refl _) _, qm _ _ (Nat.le_refl _)⟩
 case round =>
   obtain ⟨k, m, g, c, hk, rfl, hm, rfl, hb, ho⟩ := hrel
   have hl : (ki (pP (s.data.toList.take k))).length = m := by rw [iA, iw, List.length_take, aO]; omega
   have Hl := Lib.hid hl
   have Hm := Lib.hid hm
   clear hl hm
   have hg : w.heap.size <= g := ho.2.2 g (by simp [PT.blocks, PT.rowOf])
   have hsz := hb.size
   by_cases hlt : k < s.size
   ·have hq16 : s[k].toNat / 16 < 16 := by have := s[k].toNat_lt; omega
    have hr16 : s[k].toNat % 16 < 16 := by omega
    have hq : ((s[k].toNat : Int).tdiv 16) = ((s[k].toNat / 16 : Nat) : Int) := rfl
    have hr : ((s[k].toNat : Int).tmod 16) = ((s[k].toNat % 16 : Nat) : Int) := rfl
    have htk : pP (s.data.toList.take (k + 1)) = pP (s.data.toList.take k) ++ [hx (s[k].toNat / 16), hx (s[k].toNat % 16)] := by
      rw [List.take_add_one, List.getElem?_eq_getElem (by rw [aO]; exact hlt)]
      simp only [pP, List.flatMap_append, Option.toList_some, List.flatMap_cons, List.flatMap_nil, List.append_nil]
      rfl
    have hds2 := Hds.out
    generalize s[k].toNat / 16 = q at hq16 hq htk
    generalize s[k].toNat % 16 = r at hr16 hr htk
    have Htk := Lib.hid htk
    clear htk
    have hqw : IntKind.u8.wrap (q : Int) = (q : Int) := by show (q : Int) % 256 = q; omega
    have hrw : IntKind.u8.wrap (r : Int) = (r : Int) := by show (r : Int) % 256 = r; omega
    have hqi : (q : Int) < 16 := by omega
    have hri : (r : Int) < 16 := by omega
    have hdq : ds[q]'(by omega) = hx q := by subst hds2; simp only [hx, List.getD_eq_getElem?_getD]; rw [List.getElem?_eq_getElem (show q < aeQ.data.toList.length from hq16)]; rfl
    have hdr : ds[r]'(by omega) = hx r := by subst hds2; simp only [hx, List.getD_eq_getElem?_getD]; rw [List.getElem?_eq_getElem (show r < aeQ.data.toList.length from hr16)]; rfl
    clear hds2
    have Hdq := Lib.hid hdq
    have Hdr := Lib.hid hdr
    have hsee : jG (wr.alloc (.cells #[.int .u8 ((ds[q]'(by omega)).toNat : Int), .int .u8 ((ds[r]'(by omega)).toNat : Int)] 5)).drew (fun _ => True) (some ⟨wr.heap.size, 0, none⟩) (PT.cellsL (ki [hx q, hx r])) := by
      rw [fX, <- hdq, <- hdr]
      exact (rc wr #[.int .u8 ((ds[q]'(by omega)).toNat : Int), .int .u8 ((ds[r]'(by omega)).toNat : Int)] 5).ext (fun _ _ => rfl)
    clear hdq hdr
    go_wp2
    go_region_law (first
      | (refine jO _ rfl (.tmp 13) (.tmp 26) _ rfl 5 i0 _ 1 1 Tryz.underlying220 hi0 hz0 hz1 hz2 rfl (by omega) (S := (w.heap.size <= ·)) (S2 := fun _ => True) (some ⟨g, 0, none⟩) (some ⟨wr.heap.size, 0, none⟩) c 2 m 2 (ki (pP (s.data.toList.take k))) (ki [hx q, hx r]) rfl rfl (ho.ext (Ext.alloc1 _ _)) hsee Hl.out.symm rfl (lZ _) (nY _ _) (by simp [PT.blocks, PT.rowOf, eb]) (by simp [eb]) (by simp; omega) (by have := Hm.out; simp only [maxLen]; omega) (by have := Hm.out; omega) ?_; intro A5 c5 w5 ho6 ht6 hA6))
    all_goals
      go_wp2
      have hb5 : Below w.heap.size w w5 := (hb.alloc hb.size _).drew.trans (ht6.below (B := w.heap.size) (by simp; omega) (fun b hb => by simp [PT.rowOf] at hb; omega))
      obtain ⟨g5, rfl⟩ : ∃ g5, A5 = some ⟨g5, 0, none⟩ := by rcases hA6 with rfl | rfl <;> exact ⟨_, rfl⟩
      go_roundw
      case rel => exact ⟨k + 1, m + 2, g5, c5, by omega, by go_num, by have := Hm.out; omega, by go_num, hb5, by rw [Htk.out, oN]; exact ho6⟩
      case measure => simp [intOf]; omega
   ·have hcv := tL 220 5 wr g 0 c m (pP (s.data.toList.take k)) (by rw [<- Hl.out, iA]) ho.seen Tryz.underlying220 Tryz.underlying5
    go_wp2
    go_ret
    exact ⟨co (by rw [List.take_of_length_le (by rw [aO]; omega)]), hb⟩
end Go.Proofs.YtigipcbnfeoliaaGreatDoor
