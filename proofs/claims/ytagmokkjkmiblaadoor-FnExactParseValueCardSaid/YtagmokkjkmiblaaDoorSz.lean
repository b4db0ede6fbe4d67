/- The contracts of the laws' own helpers that count how much a value holds. Written by gen_copy.py. -/
import Derived.Test.YtagmokkjkmiblaaDoorTypes
import Derived.Test.YtagmokkjkmiblaaDoorInts
namespace Go.Proofs.YtagmokkjkmiblaaDoor
open Go Go.RowKit

/-- What a size helper leaves: what is left over, where it is not used up. -/
def SzPost (left : Int) (n : Nat) (w : World) (e : Ending) (w' : World) : Prop := ∃ r : Int, (0 ≤ r → r + n = left) ∧ e = .returned (.int .i64 r) ∧ Below w.heap.size w w'

set_option maxHeartbeats 400000 in
theorem szInstr_any  (x : TInstr) (left : Int) (w : World) (hs : Seen w (· < w.heap.size) (.agg [.int .i64 x.op, .int .i64 x.a, .int .i64 x.b, .str x.text])) (hx : x.sane) (h0 : 0 ≤ left) (h1 : left ≤ 1048576) :
    Calls Tryd.prog 52 #[.agg #[.int .i64 x.op, .int .i64 x.a, .int .i64 x.b, .string x.text], .int .i64 left] w fun e w' => SzPost left x.bulk w e w' := by
  have hx2 := hx
  simp only [TInstr.sane] at hx2
  have hm : (maxLen : Int) = 9223372036854775807 := by simp [maxLen]
  obtain ⟨s_Op, s_A, s_B, s_Text⟩ := hx2
  have hB : Below w.heap.size w (w.alloc (.cells #[.int .i64 x.op, .int .i64 x.a, .int .i64 x.b, .string x.text] 90)) := (Below.refl _ _).alloc (Nat.le_refl _) _
  go_enter Tryd.func52, Tryd.ntmps52
  by_cases n3 : left - (x.text.size : Int) < 0
  · go_wp2_with fail
    go_ret
    exact ⟨_, by intro h; simp at h, rfl, hB⟩
  go_wp2_with fail
  go_ret
  exact ⟨left - (x.text.size : Int), by intro _; simp only [TInstr.bulk]; omega, rfl, hB⟩

set_option maxHeartbeats 400000 in
theorem szInstrS_any (A : Option Addr) (c : Nat) (l : List TInstr) (left : Int) (w : World) (hs : Seen w (· < w.heap.size) (.sl A c 4 (l.map TInstr.pt))) (hx : ∀ y ∈ l, y.sane) (h0 : 0 ≤ left) (h1 : left ≤ 1048576) :
    Calls Tryd.prog 23 #[.slice A l.length c, .int .i64 left] w fun e w' => SzPost left (bl TInstr.bulk l) w e w' := by
  have hl : l.length ≤ 9223372036854775807 := by
    have h2 := hs.1; have h3 := hs.2.1
    simp only [List.length_map, maxLen] at h2 h3; omega
  by_cases h : left - (l.length : Int) < 0
  · go_enter Tryd.func23, Tryd.ntmps23
    go_wp2
    go_ret
    exact ⟨_, by intro h; simp at h, rfl, Below.refl _ _⟩
  · go_enter Tryd.func23, Tryd.ntmps23
    go_wp2
    go_loopw [1, 5] (fun v i wr => ∃ (k : Nat) (r : Int), k ≤ l.length ∧ i = .int .i64 k ∧ v = .int .i64 r ∧ 0 ≤ r ∧ r + l.length + ((l.take k).map TInstr.bulk).sum = left ∧ Below w.heap.size w wr) (fun _ i _ => l.length - (intOf i).toNat)
    case atStart => exact ⟨0, _, Nat.zero_le _, rfl, rfl, by omega, by simp, Below.refl _ _⟩
    case round =>
      obtain ⟨k, r, hk, rfl, rfl, hp, hr, hb⟩ := hrel
      have Hr := Lib.hid hr
      have hrl : r ≤ 1048576 := by omega
      clear hr
      by_cases hlt : k < l.length
      · obtain ⟨b, o, rfl, hbB, hcc⟩ := hs.2.2.1.elem hs.2.2.2.1 (by omega) (k := k) (t := (l[k]).pt) (by simp [hlt])
        have c0 : w.cell? ⟨b, o + k * 4, none⟩ = some (.int .i64 l[k].op) := by exact hcc 0 _ rfl
        have c1 : w.cell? ⟨b, o + k * 4 + 1, none⟩ = some (.int .i64 l[k].a) := by rw [Nat.add_assoc]; exact hcc 1 _ rfl
        have c2 : w.cell? ⟨b, o + k * 4 + 2, none⟩ = some (.int .i64 l[k].b) := by rw [Nat.add_assoc]; exact hcc 2 _ rfl
        have c3 : w.cell? ⟨b, o + k * 4 + 3, none⟩ = some (.string l[k].text) := by rw [Nat.add_assoc]; exact hcc 3 _ rfl
        clear hcc
        have hxk := hx l[k] (List.getElem_mem _)
        have hsum := sum_take_succ TInstr.bulk l (k := k) hlt
        have Hsum := Lib.hid hsum
        clear hsum
        have d0 := (hb.cell (p := ⟨b, o + k * 4, none⟩) hbB).trans c0
        have d1 := (hb.cell (p := ⟨b, o + k * 4 + 1, none⟩) hbB).trans c1
        have d2 := (hb.cell (p := ⟨b, o + k * 4 + 2, none⟩) hbB).trans c2
        have d3 := (hb.cell (p := ⟨b, o + k * 4 + 3, none⟩) hbB).trans c3
        clear c0 c1 c2 c3
        go_wp2_with fail
        refine (szInstr_any l[k] r _ (TInstr.flat.seen _ _ _) hxk hp hrl).mono ?_
        rintro e w2 ⟨r2, q2, rfl, hb2⟩
        have hB := hb.trans (hb2.mono hb.size)
        by_cases hneg : r2 < 0
        · go_wp2_with fail
          go_ret
          exact ⟨_, by intro h; simp at h, rfl, hB⟩
        · have q3 := q2 (by omega)
          have Q3 := Lib.hid q3
          clear q2 q3
          go_wp2_with fail
          go_roundw
          case rel => exact ⟨k + 1, r2, by omega, by go_num, rfl, by omega, by rw [Hsum.out]; have := Hr.out; have := Q3.out; omega, hB⟩
          case measure => simp [intOf]; omega
      · go_wp2
        go_ret
        refine ⟨r, fun _ => ?_, rfl, hb⟩
        have := Hr.out
        rw [List.take_of_length_le (by omega)] at this
        simp only [bl]; omega

set_option maxHeartbeats 400000 in
theorem szCode_any (A3 : Option Addr) (c3 : Nat) (x : TCode) (left : Int) (w : World) (hs : Seen w (· < w.heap.size) (.agg [.bool x.block, .int .i64 x.params, .int .i64 x.slots, .sl A3 c3 4 ((x.instrs).map TInstr.pt)])) (hx : x.sane) (h0 : 0 ≤ left) (h1 : left ≤ 1048576) :
    Calls Tryd.prog 6 #[.agg #[.bool x.block, .int .i64 x.params, .int .i64 x.slots, .slice A3 (x.instrs).length c3], .int .i64 left] w fun e w' => SzPost left x.bulk w e w' := by
  have hx2 := hx
  simp only [TCode.sane] at hx2
  have hm : (maxLen : Int) = 9223372036854775807 := by simp [maxLen]
  obtain ⟨s_Params, s_Slots, s_Instrs⟩ := hx2
  have hB : Below w.heap.size w (w.alloc (.cells #[.bool x.block, .int .i64 x.params, .int .i64 x.slots, .slice A3 (x.instrs).length c3] 24)) := (Below.refl _ _).alloc (Nat.le_refl _) _
  have BP := Blk.new w 24 #[.bool x.block, .int .i64 x.params, .int .i64 x.slots, .slice A3 (x.instrs).length c3]
  go_enter Tryd.func6, Tryd.ntmps6
  have hsf := hs
  simp only [Seen, SeenL, and_true] at hsf
  go_wp2_with fail
  refine (szInstrS_any A3 c3 x.instrs (left) _ ((hs.2.2.2.1).below hB).here s_Instrs (by omega) (by omega)).mono ?_
  rintro e w3 ⟨r3, q3, rfl, hb3⟩
  have BP := BP.below hb3 BP.lt
  have hB := hB.trans (hb3.mono hB.size)
  clear hb3
  by_cases n3 : r3 < 0
  · go_wp2_with fail
    go_ret
    exact ⟨_, by intro h; simp at h, rfl, hB⟩
  have q3 := q3 (by omega)
  go_wp2_with fail
  go_ret
  exact ⟨r3, by intro _; simp only [TCode.bulk]; omega, rfl, hB⟩

end Go.Proofs.YtagmokkjkmiblaaDoor
