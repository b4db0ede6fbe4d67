/- The contracts of the reference's draws from a list of bytes, as far as the law needs them: what is drawn lies in its range. -/
import Derived.Test.YtoflhemcjmhmkaaInts
namespace Go.Proofs.Ytoflhemcjmhmkaa
open Go Go.RowKit

def bytes (bs : List UInt8) : List PT := bs.map fun b => PT.int .u8 (b.toNat : Int)
theorem bytes_length (bs : List UInt8) : (bytes bs).length = bs.length := by simp [bytes]
theorem cellsL_bytes (bs : List UInt8) : PT.cellsL (bytes bs) = bs.map fun b => Value.int .u8 (b.toNat : Int) := by
  induction bs with
  | nil => rfl
  | cons z r ih => simp only [bytes, List.map_cons, PT.cellsL, PT.cells] at *; rw [ih]; rfl
theorem Seen.byte_at {w : World} {S : Nat → Prop} {A : Option Addr} {c : Nat} {bs : List UInt8} (h : Seen w S (.sl A c 1 (bytes bs))) {k : Nat} (hk : k < bs.length) :
    ∃ b o, A = some ⟨b, o, none⟩ ∧ S b ∧ w.cell? ⟨b, o + k, none⟩ = some (.int .u8 ((bs[k]'hk).toNat : Int)) := by
  have h1 := h.2.2.1
  rw [cellsL_bytes] at h1
  exact h1 k _ (by simp [hk])

theorem seen_none_bytes (w : World) (S : Nat → Prop) : Seen w S (.sl none 0 1 (bytes [])) := ⟨by simp [bytes], by simp, Sees.nil _ _ _, by simp [bytes], trivial⟩

theorem seen_bytes (A : Option Addr) (c : Nat) (bs : List UInt8) (w : World) (hl : bs.length ≤ c) (hc : c ≤ maxLen) (h : ∀ j (hj : j < bs.length), ∃ a, A = some a ∧ w.cell? (a.add j) = some (.int .u8 (bs[j].toNat : Int))) :
    Seen w (· < w.heap.size) (.sl A c 1 (bytes bs)) := by
  refine ⟨by simpa [bytes] using hl, hc, ?_, fun t ht => ?_, SeenL.of_get fun t ht => ?_⟩
  · rw [cellsL_bytes]
    intro j u hj
    obtain ⟨hj1, rfl⟩ := List.getElem?_eq_some_iff.1 hj
    have hj2 : j < bs.length := by simpa using hj1
    obtain ⟨a, hA, hcell⟩ := h j hj2
    obtain ⟨b, o, s⟩ := a
    rw [List.getElem_map]
    obtain ⟨b0, o0, hA0, h0⟩ := addr_plain A bs.length w (fun i hi => by obtain ⟨a, h1, h2⟩ := h i hi; exact ⟨a, _, h1, h2⟩) hj2
    rw [hA0] at hA
    simp only [Option.some.injEq, Addr.mk.injEq] at hA
    obtain ⟨rfl, rfl, rfl⟩ := hA
    rw [Addr.add_lit] at hcell
    exact ⟨b0, o0, hA0, by have := World.block_lt_of_cell? w _ hcell; exact this, hcell⟩
  · simp only [bytes, List.mem_map] at ht; obtain ⟨z, _, rfl⟩ := ht; rfl
  · simp only [bytes, List.mem_map] at ht; obtain ⟨z, _, rfl⟩ := ht; trivial

/-- The cursor: a block of its own. -/
def Cur (w : World) (g : Nat) (A : Option Addr) (n c : Nat) : Prop :=
  ∃ (i : Nat) (h : Int), i ≤ n ∧ w.heap[g]? = some (.cells #[.slice A n c, .int .i64 i, .int .i64 h] 35 (0, 0))

theorem i64_and255 (n : Int) : bits .and .i64 n 255 = n % 256 := by
  have h255 : (BitVec.ofInt 64 255).toNat = 2 ^ 8 - 1 := by decide
  have key : (BitVec.ofInt 64 n &&& BitVec.ofInt 64 255).toNat = (n % ((2 ^ 64 : Nat) : Int)).toNat % 2 ^ 8 := by
    rw [BitVec.toNat_and, BitVec.toNat_ofInt, h255, Nat.and_two_pow_sub_one_eq_mod]
  show IntKind.i64.wrap ((BitVec.ofInt 64 n &&& BitVec.ofInt 64 255).toNat : Nat) = n % 256
  rw [key, IntKind.wrap_i64]
  omega

theorem ret_int {k : IntKind} {a b : Int} (h : a = b) : Ending.returned (.int k a) = .returned (.int k b) := by rw [h]
theorem and255_range (n : Int) : 0 ≤ bits .and .i64 n 255 ∧ bits .and .i64 n 255 ≤ 255 := by
  rw [i64_and255]; omega

set_option maxHeartbeats 400000 in
set_option maxRecDepth 100000 in
theorem l1New_any (A : Option Addr) (c : Nat) (bs : List UInt8) (w : World) (hs : Seen w (· < w.heap.size) (.sl A c 1 (bytes bs))) (hn : bs.length ≤ 1048576) :
    Calls Try.prog 13 #[.slice A bs.length c] w fun e w' => ∃ n h, e = .returned (.pointer (some ⟨w.heap.size, 0, none⟩)) ∧ w' = (w.alloc (.cells #[.slice A bs.length c, .int .i64 0, .int .i64 h] 35)).drewN n := by
  go_enter Try.func13, Try.ntmps13
  go_wp2
  go_loopw [3, 4] (fun hv i wr => ∃ (k n : Nat) (h : Int), k ≤ bs.length ∧ i = .int .i64 k ∧ hv = .int .i64 h ∧ wr = w.drewN n) (fun _ i _ => bs.length - (intOf i).toNat)
  case atStart => exact ⟨0, 0, _, Nat.zero_le _, rfl, rfl, rfl⟩
  case round =>
    obtain ⟨k, n, h, hk, rfl, rfl, rfl⟩ := hrel
    by_cases hlt : k < bs.length
    · obtain ⟨b, o, rfl, hb, hcell⟩ := hs.byte_at hlt
      have hub : ((bs[k]).toNat : Int) ≤ 255 := by have := (bs[k]).toNat_lt; omega
      clear hs
      by_cases h4 : (k : Int) < 4000
      · go_wp2
        go_roundw
        case rel => exact ⟨k + 1, n, _, by omega, by go_num, rfl, rfl⟩
        case measure => simp [intOf]; omega
      · go_wp2
        go_ret
        first | exact ⟨rfl, _, _, rfl⟩ | exact ⟨_, _, rfl, rfl⟩
    · go_wp2
      go_ret
      first | exact ⟨rfl, _, _, rfl⟩ | exact ⟨_, _, rfl, rfl⟩

set_option maxHeartbeats 400000 in
set_option maxRecDepth 100000 in
theorem l1Byte_any (g : Nat) (A : Option Addr) (c : Nat) (bs : List UInt8) (w : World) (hs : Seen w (· ≠ g) (.sl A c 1 (bytes bs))) (hc : Cur w g A bs.length c) (hn : bs.length ≤ 1048576) :
    Calls Try.prog 16 #[.pointer (some ⟨g, 0, none⟩)] w fun e w' => ∃ x : Int, e = .returned (.int .i64 x) ∧ 0 ≤ x ∧ x ≤ 255 ∧ Touch (· = g) w w' ∧ w.heap.size = w'.heap.size ∧ Cur w' g A bs.length c := by
  obtain ⟨i, h, hi, hg⟩ := hc
  have hB : Blk w g 35 #[.slice A bs.length c, .int .i64 i, .int .i64 h] := hg
  have c2 : w.cell? ⟨g, 2, none⟩ = some (.int .i64 h) := hB.cell 2
  have f2 := hB.frozen 2
  clear hg
  go_enter Try.func16, Try.ntmps16
  go_wp2
  generalize wrap64 (wrap64 _ + _) = h2
  have hB1 := hB.set_ 2 (.int .i64 h2)
  have ht1 : Touch (· = g) w (w.setCell ⟨g, 2, none⟩ (.int .i64 h2)) := (Touch.refl _ _).setCell (p := ⟨g, 2, none⟩) (T := (· = g)) rfl _
  have hsz : w.heap.size = (w.setCell ⟨g, 2, none⟩ (.int .i64 h2)).heap.size := by simp
  simp only [List.setIfInBounds_toArray, List.set_cons_succ, List.set_cons_zero] at hB1
  have hs1 := hs.keep (w' := w.setCell ⟨g, 2, none⟩ (.int .i64 h2)) (fun b hb => Below.heap_setCell _ _ _ _ hb) fun _ h _ => h
  clear hB c2 f2 hs
  generalize w.setCell ⟨g, 2, none⟩ (.int .i64 h2) = w1 at hB1 hs1 ht1 hsz
  have c0 : w1.cell? ⟨g, 0, none⟩ = some (.slice A bs.length c) := hB1.cell 0
  have c1 : w1.cell? ⟨g, 1, none⟩ = some (.int .i64 i) := hB1.cell 1
  have c2 : w1.cell? ⟨g, 2, none⟩ = some (.int .i64 h2) := hB1.cell 2
  have f1 := hB1.frozen 1
  go_quiet (fail)
  by_cases hlt : i < bs.length
  · obtain ⟨b, o, rfl, hb, hcell⟩ := hs1.byte_at hlt
    have hub : ((bs[i]).toNat : Int) ≤ 255 := by have := (bs[i]).toNat_lt; omega
    go_wp2
    go_quiet (fail)
    go_wp2
    go_quiet (fail)
    go_wp2
    go_ret
    refine ⟨_, rfl, (and255_range _).1, (and255_range _).2, ?_, ?_, i + 1, h2, hlt, ?_⟩
    · exact (ht1.drewN _).setCell (p := ⟨g, 1, none⟩) (T := (· = g)) rfl _
    · simpa using hsz
    · have h3 := hB1.set_ 1 (.int .i64 ((i : Int) + 1))
      simp only [List.setIfInBounds_toArray, List.set_cons_succ, List.set_cons_zero] at h3
      exact h3
  · go_wp2
    go_quiet (fail)
    go_wp2
    go_ret
    exact ⟨_, rfl, (and255_range _).1, (and255_range _).2, (ht1.drewN _).drewN _, hsz, i, h2, hi, hB1⟩


set_option maxHeartbeats 400000 in
theorem l1Below_any (g : Nat) (A : Option Addr) (c : Nat) (bs : List UInt8) (n : Int) (w : World) (hs : Seen w (· ≠ g) (.sl A c 1 (bytes bs))) (hc : Cur w g A bs.length c) (hn : bs.length ≤ 1048576) (h1 : 1 ≤ n) (h2 : n ≤ 256) :
    Calls Try.prog 14 #[.pointer (some ⟨g, 0, none⟩), .int .i64 n] w fun e w' => ∃ x : Nat, e = .returned (.int .i64 x) ∧ (x : Int) < n ∧ Touch (· = g) w w' ∧ w.heap.size = w'.heap.size ∧ Cur w' g A bs.length c := by
  have hn0 : ¬ n ≤ 0 := by omega
  go_enter Try.func14, Try.ntmps14
  go_wp2_with fail
  refine (l1Byte_any g A c bs w hs hc hn).mono ?_
  rintro e w1 ⟨x, rfl, hx0, hx1, ht, hsz, hcur⟩
  go_wp2_with fail
  go_ret
  have h3 := Int.emod_lt_of_pos x (show 0 < n by omega)
  have h4 := Int.emod_nonneg x (show n ≠ 0 by omega)
  exact ⟨(x % n).toNat, ret_int (Int.toNat_of_nonneg h4).symm, by omega, ht, hsz, hcur⟩

set_option maxHeartbeats 400000 in
theorem draw_any (A : Option Addr) (c : Nat) (bs : List UInt8) (w : World) (hs : Seen w (· < w.heap.size) (.sl A c 1 (bytes bs))) (hn : bs.length ≤ 1048576) :
    Calls Try.prog 6 #[.slice A bs.length c] w fun e w' => ∃ (A' : Option Addr) (c' : Nat) (zs : List Int), zs.length ≤ 8 ∧ e = .returned (.slice A' zs.length c') ∧ Below w.heap.size w w' ∧ Owned w' (w.heap.size ≤ ·) (.sl A' c' 1 (ints zs)) := by
  obtain ⟨i0, hi0, hz0, hz1, hz2⟩ := info_parts Try.infoInt
  go_enter Try.func6, Try.ntmps6
  go_wp2_with fail
  refine (l1New_any A c bs w hs hn).mono ?_
  rintro e w1 ⟨n1, h1, rfl, rfl⟩
  go_wp2_with fail
  have hb2 : Below w.heap.size w (((w.alloc (.cells #[.slice A bs.length c, .int .i64 0, .int .i64 h1] 35)).drewN n1).alloc (.cells #[] 3)) := (below_drewN ((Below.refl _ _).alloc (Nat.le_refl _) _) n1).alloc (by simp) _
  have hcur : Cur (((w.alloc (.cells #[.slice A bs.length c, .int .i64 0, .int .i64 h1] 35)).drewN n1).alloc (.cells #[] 3)) w.heap.size A bs.length c := ⟨0, h1, Nat.zero_le _, (Blk.new w _ _).ext (Ext.alloc1 ((w.alloc _).drewN n1) _)⟩
  have hown : Owned (((w.alloc (.cells #[.slice A bs.length c, .int .i64 0, .int .i64 h1] 35)).drewN n1).alloc (.cells #[] 3)) (w.heap.size < ·) (.sl (some ⟨w.heap.size + 1, 0, none⟩) 0 1 (ints [])) := by
    have := owned_made (w := (w.alloc (.cells #[.slice A bs.length c, .int .i64 0, .int .i64 h1] 35)).drewN n1) (S := (w.heap.size < ·)) 3 1 (by simp)
    simpa [ints] using this
  generalize ((w.alloc (.cells #[.slice A bs.length c, .int .i64 0, .int .i64 h1] 35)).drewN n1).alloc (.cells #[] 3) = w2 at hb2 hcur hown
  refine (l1Below_any w.heap.size A c bs 9 w2 ((hs.below hb2).mono fun b h1 _ => by omega) hcur hn (by omega) (by omega)).mono ?_
  rintro e w3 ⟨m, rfl, hm, ht3, hsz3, hcur3⟩
  have hown3 := hown.touch ht3 (fun b h1 _ h2 => by omega)
  have hb3 := hb2.trans (ht3.below (B := w.heap.size) hb2.size (fun b h => by omega))
  clear hb2 hcur hown ht3 hsz3
  go_wp2_with fail
  go_loopw [4, 6] (fun ov i wr => ∃ (k g c' : Nat) (zs : List Int), zs.length = k ∧ k ≤ m ∧ i = .int .i64 k ∧ ov = .slice (some ⟨g, 0, none⟩) k c' ∧ Below w.heap.size w wr ∧ Cur wr w.heap.size A bs.length c ∧ Owned wr (w.heap.size < ·) (.sl (some ⟨g, 0, none⟩) c' 1 (ints zs))) (fun _ i _ => m - (intOf i).toNat)
  case atStart => exact ⟨0, _, _, [], rfl, Nat.zero_le _, rfl, rfl, hb3, hcur3, hown3⟩
  case round =>
    obtain ⟨k, g, c', zs, hzl, hk, rfl, rfl, hb, hc, ho⟩ := hrel
    clear hb3 hcur3 hown3
    have Hzl := Lib.hid hzl
    clear hzl
    by_cases hlt : k < m
    · go_wp2_with fail
      refine (l1Below_any w.heap.size A c bs 12 wr ((hs.below hb).mono fun b h1 _ => by omega) hc hn (by omega) (by omega)).mono ?_
      rintro e w4 ⟨x, rfl, hx, ht4, hsz4, hc4⟩
      have ho4 := ho.touch ht4 (fun b h1 _ h2 => by omega)
      have hb4 := hb.trans (ht4.below (B := w.heap.size) hb.size (fun b h => by omega))
      clear hb hc ho ht4
      have hS : w.heap.size < w4.heap.size + 1 := by have := hb4.size; omega
      go_wp2_with (at_builtin; refine wpList_append_int rfl (.tmp 17) (.tmp 21) rfl (S := (w.heap.size < ·)) (some ⟨g, 0, none⟩) c' k zs ((x : Int) - 3) rfl rfl ho4 Hzl.out.symm hS (by omega) ?_; intro A5 c5 w5 ho5 ht5 hA5)
      obtain ⟨g5, rfl⟩ := hA5 g rfl
      have hg : w.heap.size < g := ho4.2.2 g (by simp [PT.blocks, PT.rowOf])
      have hb5 := hb4.trans (ht5.below (B := w.heap.size) hb4.size (fun b h => by simp [PT.rowOf] at h; omega))
      have hc5 : Cur w5 w.heap.size A bs.length c := by
        obtain ⟨i, h, hi, hg1⟩ := hc4
        exact ⟨i, h, hi, Blk.touch hg1 ht5 (fun h => by simp [PT.rowOf] at h; omega)⟩
      clear ho4 hb4 hc4 ht5 hsz4
      go_roundw
      case rel => exact ⟨k + 1, g5, c5, zs ++ [(x : Int) - 3], by simp [Hzl.out], by omega, by go_num, rfl, hb5, hc5, ho5⟩
      case measure => simp [intOf]; omega
    · go_wp2
      go_ret
      have e : zs.length = m := by have := Hzl.out; omega
      have e2 := Hzl.out
      subst e2
      exact ⟨_, _, zs, by omega, rfl, hb, ho.mono fun b h1 _ => by omega⟩

end Go.Proofs.Ytoflhemcjmhmkaa
