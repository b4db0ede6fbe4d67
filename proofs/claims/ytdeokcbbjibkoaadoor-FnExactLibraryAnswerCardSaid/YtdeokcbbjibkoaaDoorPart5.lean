/- Part 5 of the proof: the texts Sort, SortLaw, DepP, DepF, SdA, DepG, SdB, SdC, Sel2, LaA, LaP, LaS. -/
import Derived.Test.YtdeokcbbjibkoaaDoorPart4
import Derived.Test.YtdeokcbbjibkoaaDoorPart1
import Derived.Sort.OwnSortedInts
import Derived.Deep.RegionLaw
import Derived.StillTailTactics
/- The contracts of SortNumbers, the program's and the reference's: both give back a new slice with the numbers in order. -/
namespace Go.Proofs.YtdeokcbbjibkoaaDoor
open Go Go.RowKit

def sorted (zs : List Int) : List Int := zs.mergeSort fun x y => decide (x ≤ y)
theorem sorted_length (zs : List Int) : (sorted zs).length = zs.length := by simp [sorted]

theorem owned_sorted {w : World} {S : Nat → Prop} {g c nn : Nat} {os : Array Obj} {zs ts : List Int} (h : Owned w S (.sl (some ⟨g, 0, none⟩) c 1 (ints zs))) (hl : ts.length = zs.length) :
    Owned (Sort.grow (Sort.putRow (Value.int .i64) (Sort.ahead w nn) g 0 ts.toArray) os) S (.sl (some ⟨g, 0, none⟩) c 1 (ints ts)) := by
  rcases own_row h.1 with ⟨h1, _⟩ | ⟨g', cur, e, hA, hg, hn, hc, hs, ht⟩
  · simp at h1
  · simp only [Option.some.injEq, Addr.mk.injEq, and_true] at hA
    subst hA
    have hl' : (ints ts).length = ts.length := by simp [ints]
    have hn' : zs.length ≤ c := by simpa [ints] using hn
    refine ⟨own_of_block (ints_cells ts) (by rw [cellsL_ints]; simp [ints]) (heap_sortedI _ hg) (by omega) hc (by simpa [Sort.putCells] using hs) ?_ (ownL_ints _ _), by simp [PT.blocks, blocksL_ints, PT.rowOf],
      fun b hb => h.2.2 b (by simpa [PT.blocks, blocksL_ints] using hb)⟩
    rw [hl', Nat.mul_one, cellsL_ints]
    exact take_putCellsI cur ts (by omega)

theorem holds_owned {w : World} {S : Nat → Prop} {g c : Nat} {zs : List Int} (h : Owned w S (.sl (some ⟨g, 0, none⟩) c 1 (ints zs))) : Sort.Holds (Value.int .i64) w g 0 zs.toArray ∧ g < w.heap.size := by
  rcases own_row h.1 with ⟨h1, _⟩ | ⟨g', cur, e, hA, hg, hn, hc, hs, ht⟩
  · simp at h1
  · simp only [Option.some.injEq, Addr.mk.injEq, and_true] at hA
    subst hA
    rw [cellsL_ints, ints_length, Nat.mul_one] at ht
    exact ⟨holds_of_blockI hg ht, (Array.getElem?_eq_some_iff.1 hg).1⟩

set_option maxHeartbeats 400000 in
theorem implSort_any (A : Option Addr) (c : Nat) (zs : List Int) (w : World) (S : Nat → Prop) (hs : Seen w S (.sl A c 1 (ints zs))) (hn : zs.length ≤ 1048576) :
    Calls Tryd.prog 36 #[.slice A zs.length c] w fun e w' => ∃ A' c', e = .returned (.slice A' zs.length c') ∧ Below w.heap.size w w' ∧ Owned w' (w.heap.size ≤ ·) (.sl A' c' 1 (ints (sorted zs))) := by
  obtain ⟨i0, hi0, hz0, hz1, hz2⟩ := info_parts Tryd.infoInt
  go_enter Tryd.func36, Tryd.ntmps36
  go_wp2_with (at_builtin; refine wpList_append_pt _ rfl (.tmp 4) (.tmp 5) _ rfl 3 i0 _ 1 8 Tryd.underlying26 hi0 hz0 hz1 hz2 rfl (by omega) (S := (w.heap.size ≤ ·)) (S2 := (· < w.heap.size)) (some ⟨w.heap.size, 0, none⟩) A 0 c 0 zs.length [] (ints zs) rfl rfl (owned_made _ _ (Nat.le_refl _)) (hs.2.2.1.here.keep (fun b hb => Below.heap_alloc _ _ _ hb) fun _ h _ => h) rfl (ints_length zs).symm (ints_cells zs) (ownL_ints _ _) (by simp [PT.blocks, PT.blocksL, PT.rowOf, blocksL_ints]) (by simp [blocksL_ints]) (by simp) (by simp only [maxLen]; omega) (by omega) ?_; intro A' c' w1 how ht hA')
  rw [List.nil_append] at how
  have hb1 : Below w.heap.size w w1 := ((Below.refl _ _).alloc (Nat.le_refl _) _).trans (ht.below (by simp) (fun b hb => by simp [PT.rowOf] at hb; omega))
  obtain ⟨g, rfl⟩ : ∃ g, A' = some ⟨g, 0, none⟩ := by rcases hA' with rfl | rfl <;> exact ⟨_, rfl⟩
  obtain ⟨hH, hg⟩ := holds_owned how
  have hge : w.heap.size ≤ g := how.2.2 g (by simp [PT.blocks, PT.rowOf])
  clear hA' hs
  go_wp2_with fail
  have e0 : (0 : Nat) + zs.length = zs.length := Nat.zero_add _
  refine (Tryd.slices_Sort_int g 0 c' zs w1 hH hg (by omega)).mono ?_
  rintro e w' ⟨rfl, nn, os, rfl⟩
  go_wp2
  go_ret
  refine ⟨_, _, rfl, hb1.grown (grownBy_sortedI _) hb1.size (fun k hk => by cases hk; exact hge), owned_sorted how (sorted_length zs)⟩

/-- x put in its place in a list that is in order: behind all that are not greater. -/
def insPos (x : Int) : List Int → Nat → Nat
  | _, 0 => 0
  | l, k + 1 => if l.getD k 0 > x then insPos x l k else k + 1
def insAt (x : Int) (l : List Int) : List Int := l.take (insPos x l l.length) ++ x :: l.drop (insPos x l l.length)
def insSort (zs : List Int) : List Int := zs.foldl (fun acc x => insAt x acc) []
theorem insPos_le (x : Int) (l : List Int) (k : Nat) : insPos x l k ≤ k := by
  induction k with
  | zero => simp [insPos]
  | succ k ih => unfold insPos; split <;> omega

theorem insAt_length (x : Int) (l : List Int) : (insAt x l).length = l.length + 1 := by
  have := insPos_le x l l.length
  simp [insAt]; omega
theorem insSort_length (zs : List Int) : (insSort zs).length = zs.length := by
  have : ∀ (zs acc : List Int), (zs.foldl (fun acc x => insAt x acc) acc).length = acc.length + zs.length := by
    intro zs
    induction zs with
    | nil => simp
    | cons z r ih => intro acc; rw [List.foldl_cons, ih, insAt_length, List.length_cons]; omega
  have h := this zs []
  rw [List.length_nil, Nat.zero_add] at h
  exact h
theorem insSort_snoc (zs : List Int) {k : Nat} (h : k < zs.length) : insSort (zs.take (k + 1)) = insAt zs[k] (insSort (zs.take k)) := by
  rw [List.take_add_one, List.getElem?_eq_getElem h]
  rw [insSort, List.foldl_append]; rfl

set_option maxHeartbeats 800000 in
set_option maxRecDepth 100000 in
theorem specSort_any (A : Option Addr) (c : Nat) (zs : List Int) (w : World) (hs : Seen w (· < w.heap.size) (.sl A c 1 (ints zs))) (hn : zs.length ≤ 1048576) :
    Calls Tryd.prog 56 #[.slice A zs.length c] w fun e w' => ∃ A' c', e = .returned (.slice A' zs.length c') ∧ Below w.heap.size w w' ∧ Owned w' (w.heap.size ≤ ·) (.sl A' c' 1 (ints (insSort zs))) := by
  obtain ⟨i0, hi0, hz0, hz1, hz2⟩ := info_parts Tryd.infoInt
  go_enter Tryd.func56, Tryd.ntmps56
  go_wp2
  go_loopw [3, 4] (fun ov i wr => ∃ (k g c' : Nat), k ≤ zs.length ∧ i = .int .i64 k ∧ ov = .slice (some ⟨g, 0, none⟩) k c' ∧ Below w.heap.size w wr ∧ Owned wr (w.heap.size ≤ ·) (.sl (some ⟨g, 0, none⟩) c' 1 (ints (insSort (zs.take k))))) (fun _ i _ => zs.length - (intOf i).toNat)
  case atStart => exact ⟨0, _, _, Nat.zero_le _, rfl, rfl, (Below.refl _ _).alloc (Nat.le_refl _) _, owned_made _ _ (Nat.le_refl _)⟩
  case round =>
    obtain ⟨k, g, c', hk, rfl, rfl, hb, ho⟩ := hrel
    by_cases hlt : k < zs.length
    · obtain ⟨b, o, rfl, hbB, hcell⟩ := hs.int_at hlt
      have hc1 : wr.cell? ⟨b, o + k, none⟩ = some (.int .i64 (zs[k])) := (hb.cell (p := ⟨b, o + k, none⟩) hbB).trans hcell
      clear hcell
      have hlen : (insSort (zs.take k)).length = k := by rw [insSort_length]; simp; omega
      have hnext := insSort_snoc zs hlt
      generalize hl : insSort (zs.take k) = l at ho hlen hnext
      clear hl
      subst hlen
      have Hnext := Lib.hid hnext
      clear hnext
      have hcap : l.length ≤ c' := by simpa [ints] using ho.seen.1
      go_wp2
      go_loopw [5] (fun a wi => ∃ (at_ n : Nat), at_ ≤ l.length ∧ a = .int .i64 at_ ∧ wi = wr.drewN n ∧ insPos zs[l.length] l l.length = insPos zs[l.length] l at_) (fun a _ => (intOf a).toNat)
      case atStart => exact ⟨l.length, 0, Nat.le_refl _, rfl, rfl, rfl⟩
      case round =>
        obtain ⟨at_, n, hat, rfl, rfl, hrel⟩ := hrel
        have Hrel := Lib.hid hrel
        clear hrel
        by_cases hgt : 0 < at_ ∧ l[at_ - 1]?.getD 0 > zs[l.length]
        · obtain ⟨h0, hgt⟩ := hgt
          obtain ⟨b2, o2, hA2, hb2, hcell2⟩ := ho.seen.int_at (k := at_ - 1) (by omega)
          simp only [Option.some.injEq, Addr.mk.injEq, and_true] at hA2
          obtain ⟨rfl, rfl⟩ := hA2
          rw [Nat.zero_add] at hcell2
          have hx : insPos zs[l.length] l at_ = insPos zs[l.length] l (at_ - 1) := by
            obtain ⟨j, rfl⟩ : ∃ j, at_ = j + 1 := ⟨at_ - 1, by omega⟩
            rw [insPos, if_pos (by simpa using hgt)]; rfl
          have Hx := Lib.hid hx
          clear hx
          rw [List.getElem?_eq_getElem (by omega)] at hgt
          simp only [Option.getD_some] at hgt
          go_wp2
          go_quiet (fail)
          go_wp2
          go_roundw
          case rel => exact ⟨at_ - 1, n + nq, by omega, by rw [show ((at_ : Int) - 1) = ((at_ - 1 : Nat) : Int) by omega], by simp, by rw [Hrel.out, Hx.out]⟩
          case measure => simp [intOf]; omega
        · have hpos : insPos zs[l.length] l at_ = at_ := by
            cases at_ with
            | zero => rfl
            | succ j =>
              rw [insPos, if_neg]
              intro h
              exact hgt ⟨by omega, by simpa using h⟩
          have Hpos : Hid (insPos zs[l.length] l l.length = at_) := Hrel.out.trans hpos
          clear hpos Hrel
          have hgw : g < wr.heap.size := own_lt.1 _ ho.1 g (by simp [PT.blocks, PT.rowOf])
          have hgb : w.heap.size ≤ g := ho.2.2 g (by simp [PT.blocks, PT.rowOf])
          rcases Nat.eq_zero_or_pos at_ with h0 | h0
          all_goals
            first
              | (
                  have _h : at_ = 0 := h0
                  have hd : decide (0 < at_) = false := by simp; omega
                  have H0 := Lib.hid _h
                  clear h0 _h
                  skip
                  clear hgt
                  go_wp2
                  go_quiet (fail)
                  clear hd)
              | (
                  have _h : at_ > 0 := h0
                  obtain ⟨b2, o2, hA2, hb2, hcell2⟩ := ho.seen.int_at (k := at_ - 1) (by omega)
                  simp only [Option.some.injEq, Addr.mk.injEq, and_true] at hA2
                  obtain ⟨rfl, rfl⟩ := hA2
                  rw [Nat.zero_add] at hcell2
                  rw [List.getElem?_eq_getElem (by omega)] at hgt
                  simp only [Option.getD_some] at hgt
                  have hle : l[at_ - 1] ≤ zs[l.length] := by
                    have : ¬ l[at_ - 1] > zs[l.length] := fun h => hgt ⟨h0, h⟩
                    omega
                  clear hgt
                  go_wp2
                  go_quiet (fail)
                  clear hcell2 hb2)
          all_goals
            obtain ⟨A3, hA3⟩ : ∃ A3, (if c' = at_ then some (⟨g, 0, none⟩ : Addr) else some ⟨g, at_, none⟩) = A3 := ⟨_, rfl⟩
            have hsee := ho.seen.cut_ints (k := at_)
            rw [Nat.zero_add, hA3] at hsee
            have hsee2 : ∀ o, Sees ((wr.drewN (n + nq)).alloc o) (w.heap.size ≤ ·) A3 (PT.cellsL (ints (l.drop at_))) := fun o => (hsee.mono (S' := fun b => w.heap.size ≤ b ∧ b < wr.heap.size) (fun b h1 h2 => ⟨h1, h2⟩)).keep (fun b hb => Below.heap_alloc (wr.drewN (n + nq)) o b hb.2) fun b hb _ => hb.1
            go_wp2_with (at_builtin; refine wpList_append_pt _ rfl (.tmp 32) (.tmp 35) _ rfl 3 i0 _ 1 8 Tryd.underlying26 hi0 hz0 hz1 hz2 rfl (by omega) (S := (wr.heap.size ≤ ·)) (some ⟨wr.heap.size, 0, none⟩) A3 0 (c' - at_) 0 (l.length - at_) [] (ints (l.drop at_)) rfl rfl (owned_made _ _ (Nat.le_refl _)) (hsee2 _) rfl (by simp [ints]) (ints_cells _) (ownL_ints _ _) (by simp [PT.blocks, PT.blocksL, PT.rowOf, blocksL_ints]) (by simp [blocksL_ints]) (by simp) (by simp only [maxLen]; omega) (by omega) ?_; intro A4 c4 w4 ho4 ht4 hA4)
            rw [List.nil_append] at ho4
            have hb4 : Below wr.heap.size wr w4 := ((below_drewN (Below.refl _ _) _).alloc (Nat.le_refl _) _).trans (ht4.below (B := wr.heap.size) (by simp) (fun b hb => by simp [PT.rowOf] at hb; omega))
            have hc4 : w4.cell? ⟨b, o + l.length, none⟩ = some (.int .i64 zs[l.length]) := (hb4.cell (p := ⟨b, o + l.length, none⟩) (World.block_lt_of_cell? wr _ hc1)).trans hc1
            have ho5 := (ho.take_ints hat).below hb4
            have hb5 := hb.trans (hb4.mono hb.size)
            have hcap2 : at_ ≤ c' := by omega
            clear ho hb hc1 hsee2 hsee hA3 ht4 hA4 hb4
            go_region_law (first
              | (refine step_append_pt _ rfl (.tmp 39) (.tmp 44) _ rfl 3 i0 _ 1 8 Tryd.underlying26 hi0 hz0 hz1 hz2 rfl (by omega) (S := (w.heap.size ≤ ·)) (S2 := fun _ => True) (some ⟨g, 0, none⟩) (some ⟨w4.heap.size, 0, none⟩) c' 1 at_ 1 (ints (l.take at_)) (ints [zs[l.length]]) rfl rfl (ho5.ext (Ext.alloc1 w4 _)) (sees_new w4 _ _) (by simp [ints]; omega) rfl (ints_cells _) (ownL_ints _ _) (by simp [PT.blocks, PT.rowOf, blocksL_ints]) (by simp [blocksL_ints]) (by have := hb5.size; simp; omega) (by simp only [maxLen]; omega) (by omega) ?_; intro A5 c5 w5 ho6 ht6 hA6)
              | (refine step_append_pt _ rfl (.tmp 45) (.tmp 46) _ rfl 3 i0 _ 1 8 Tryd.underlying26 hi0 hz0 hz1 hz2 rfl (by omega) (S := (w.heap.size ≤ ·)) (S2 := (wr.heap.size ≤ ·)) A5 A4 c5 c4 (at_ + 1) (l.length - at_) (ints (l.take at_) ++ ints [zs[l.length]]) (ints (l.drop at_)) rfl rfl ho6 (Sees.touch (by exact ho4.seen.2.2.1.ext (fun b hb => Below.heap_alloc w4 _ b hb)) ht6 (fun b hb _ h => by simp [PT.rowOf] at h; omega)) (by simp [ints]; omega) (by simp [ints]) (ints_cells _) (ownL_ints _ _) (by cases A5 <;> simp [PT.blocks, PT.rowOf, blocksL_ints, PT.blocksL_append]) (by simp [blocksL_ints]) (by have := hb5.size; have := ht6.size; simp at this; omega) (by simp only [maxLen]; omega) (by omega) ?_; intro A7 c7 w7 ho8 ht8 hA8))
            have hb6 : Below w.heap.size w w5 := (hb5.alloc hb5.size (.cells #[.int .i64 zs[l.length]] 3)).drew.trans (ht6.below (B := w.heap.size) (by have := hb5.size; simp; omega) (fun b hb => by simp [PT.rowOf] at hb; omega))
            obtain ⟨g5, rfl⟩ : ∃ g5, A5 = some ⟨g5, 0, none⟩ := by rcases hA6 with rfl | rfl <;> exact ⟨_, rfl⟩
            have hb8 : Below w.heap.size w w7 := hb6.trans (ht8.below (B := w.heap.size) hb6.size (fun b hb => by
              have := ho6.2.2 g5 (by simp [PT.blocks, PT.rowOf]); simp [PT.rowOf] at hb; omega))
            obtain ⟨g7, rfl⟩ : ∃ g7, A7 = some ⟨g7, 0, none⟩ := by rcases hA8 with rfl | rfl <;> exact ⟨_, rfl⟩
            have hfin : ints (l.take at_) ++ ints [zs[l.length]] ++ ints (l.drop at_) = ints (insSort (zs.take (l.length + 1))) := by
              rw [Hnext.out, insAt, Hpos.out]; simp [ints]
            rw [hfin] at ho8
            have hlen2 : at_ + 1 + (l.length - at_) = l.length + 1 := by omega
            clear hfin
            go_wp2
            go_roundw
            case rel => exact ⟨l.length + 1, g7, c7, by omega, by go_num, rfl, hb8, ho8⟩
            case measure => simp [intOf]; omega
    · go_wp2
      go_ret
      have e : k = zs.length := by omega
      subst e
      rw [List.take_length] at ho
      exact ⟨_, _, rfl, hb, ho⟩
end Go.Proofs.YtdeokcbbjibkoaaDoor
/- Both ways of sorting give one list: the numbers in order. No program here. -/
namespace Go.Proofs.YtdeokcbbjibkoaaDoor
open Go Go.RowKit

theorem sorted_perm (zs : List Int) : (sorted zs).Perm zs := List.mergeSort_perm _ _
theorem sorted_pair (zs : List Int) : (sorted zs).Pairwise (· ≤ ·) := by
  have h := List.pairwise_mergeSort (le := fun x y : Int => decide (x ≤ y)) (fun a b c h1 h2 => by simp at *; omega) (fun a b => by simp; omega) zs
  exact h.imp fun h => by simpa using h

theorem insPos_spec (x : Int) (l : List Int) (hl : l.Pairwise (· ≤ ·)) : ∀ k, k ≤ l.length → (∀ j (h : j < l.length), k ≤ j → x < l[j]) →
    (∀ j (h : j < l.length), j < insPos x l k → l[j] ≤ x) ∧ (∀ j (h : j < l.length), insPos x l k ≤ j → x < l[j])
  | 0, _, hg => ⟨fun j _ h => by simp [insPos] at h, fun j h _ => hg j h (Nat.zero_le _)⟩
  | k + 1, hk, hg => by
    have hd : l.getD k 0 = l[k] := by simp [List.getD, List.getElem?_eq_getElem (show k < l.length by omega)]
    unfold insPos
    rw [hd]
    split
    · rename_i h
      exact insPos_spec x l hl k (by omega) fun j hj hkj => by
        rcases Nat.eq_or_lt_of_le hkj with e | e
        · subst e; exact h
        · exact hg j hj e
    · rename_i h
      refine ⟨fun j hj hjk => ?_, fun j hj hkj => hg j hj hkj⟩
      rcases Nat.eq_or_lt_of_le (Nat.le_of_lt_succ hjk) with e | e
      · subst e; omega
      · have := List.pairwise_iff_getElem.1 hl j k hj (by omega) e
        omega

theorem insAt_pair (x : Int) (l : List Int) (hl : l.Pairwise (· ≤ ·)) : (insAt x l).Pairwise (· ≤ ·) := by
  obtain ⟨h1, h2⟩ := insPos_spec x l hl l.length (Nat.le_refl _) (fun j h hj => absurd h (by omega))
  have hp := insPos_le x l l.length
  unfold insAt
  generalize insPos x l l.length = p at *
  refine List.pairwise_append.2 ⟨hl.sublist (List.take_sublist _ _), List.pairwise_cons.2 ⟨fun b hb => ?_, hl.sublist (List.drop_sublist _ _)⟩, fun a ha b hb => ?_⟩
  · obtain ⟨j, hj, rfl⟩ := List.getElem_of_mem hb
    rw [List.getElem_drop]
    exact Int.le_of_lt (h2 _ (by simp at hj; omega) (by omega))
  · obtain ⟨i, hi, rfl⟩ := List.getElem_of_mem ha
    have hi' : i < p := by simp at hi; omega
    rw [List.getElem_take]
    have ha' := h1 i (by simp at hi; omega) hi'
    rcases List.mem_cons.1 hb with rfl | hb
    · exact ha'
    · obtain ⟨j, hj, rfl⟩ := List.getElem_of_mem hb
      rw [List.getElem_drop]
      have := h2 (p + j) (by simp at hj; omega) (by omega)
      omega
theorem insAt_perm (x : Int) (l : List Int) : (insAt x l).Perm (x :: l) := by
  unfold insAt
  exact (List.perm_middle).trans (by rw [List.take_append_drop])

theorem insSort_go : ∀ (zs acc : List Int), acc.Pairwise (· ≤ ·) → (zs.foldl (fun acc x => insAt x acc) acc).Pairwise (· ≤ ·) ∧ (zs.foldl (fun acc x => insAt x acc) acc).Perm (acc ++ zs)
  | [], acc, h => ⟨h, by simp⟩
  | z :: r, acc, h => by
    obtain ⟨h1, h2⟩ := insSort_go r (insAt z acc) (insAt_pair z acc h)
    refine ⟨h1, h2.trans ?_⟩
    exact ((insAt_perm z acc).append_right r).trans ((List.perm_middle (l₁ := acc)).symm)

theorem insSort_eq (zs : List Int) : insSort zs = sorted zs := by
  obtain ⟨h1, h2⟩ := insSort_go zs [] List.Pairwise.nil
  rw [List.nil_append] at h2
  exact (h2.trans (sorted_perm zs).symm).eq_of_pairwise (fun a b _ _ h3 h4 => Int.le_antisymm h3 h4) h1 (sorted_pair zs)

end Go.Proofs.YtdeokcbbjibkoaaDoor
/- The depths of the stack as plain functions: what an instruction takes, where it goes on, one step of the program's way and of the reference's way, and that both are one. No program here. -/
namespace Go.Proofs.YtdeokcbbjibkoaaDoor
open Go Go.RowKit

def gd (ds : List Int) (p : Int) : Int := ds.getD p.toNat 0
/-- All depths lie from -1 to 250. -/
def InvD (ds : List Int) : Prop := ∀ x ∈ ds, -1 ≤ x ∧ x ≤ 250
theorem InvD.gd {ds : List Int} (h : InvD ds) (p : Int) : -1 ≤ gd ds p ∧ gd ds p ≤ 250 := by
  unfold Proofs.YtdeokcbbjibkoaaDoor.gd
  rw [List.getD_eq_getElem?_getD]
  cases hp : ds[p.toNat]? with
  | none => simp
  | some x => exact h x (List.mem_of_getElem? hp)
theorem InvD.set {ds : List Int} (h : InvD ds) {d : Int} (h0 : -1 ≤ d) (h1 : d ≤ 250) (p : Nat) : InvD (ds.set p d) := fun x hx => by
  rcases List.mem_or_eq_of_mem_set hx with hx | rfl
  · exact h x hx
  · exact ⟨h0, h1⟩
end Go.Proofs.YtdeokcbbjibkoaaDoor
/- The whole way of the depths as a plain function: the program's steps and the reference's, one behind the other, and that both come to one result. No program here. -/
namespace Go.Proofs.YtdeokcbbjibkoaaDoor
open Go Go.RowKit

/-- What holds between two steps: the depths known so far, what is still to do, and how many steps at most are still to come. -/
structure DSt (n : Nat) (ds : List Int) (q : List Nat) (k : Nat) : Prop where
  len : ds.length = n
  inv : InvD ds
  ok : ∀ p ∈ q, p < n ∧ 0 ≤ gd ds p
  mu : q.length + ds.countP (· < 0) ≤ k
theorem gd_set {ds : List Int} {p : Int} (hp : p.toNat < ds.length) (d : Int) (x : Nat) : gd (ds.set p.toNat d) (x : Int) = if p.toNat = x then d else gd ds x := by
  unfold gd
  simp only [Int.toNat_natCast, List.getD_eq_getElem?_getD, List.getElem?_set]
  split
  · rename_i h; subst h; simp [hp]
  · rfl
theorem gd_get {ds : List Int} {p : Nat} (hp : p < ds.length) : gd ds (p : Int) = ds[p] := by
  unfold gd; simp [hp]
theorem DSt.push {n : Nat} {ds : List Int} {q : List Nat} {k : Nat} (h : DSt n ds q k) {p d : Int} (hp : inR p 0 ((n : Int) - 1) = true) (h0 : 0 ≤ d) (h1 : d ≤ 250) (hg : gd ds p < 0) : DSt n (ds.set p.toNat d) (q ++ [p.toNat]) k := by
  simp only [inR, decide_eq_true_eq] at hp
  have hl := h.len
  have hpl : p.toNat < ds.length := by omega
  refine ⟨by simp [hl], h.inv.set (by omega) h1 _, fun x hx => ?_, ?_⟩
  · rw [gd_set hpl]
    rcases List.mem_append.1 hx with hx | hx
    · refine ⟨(h.ok x hx).1, ?_⟩
      split
      · exact h0
      · exact (h.ok x hx).2
    · simp at hx; subst hx
      exact ⟨by omega, by rw [if_pos rfl]; exact h0⟩
  · have hn : ds[p.toNat] < 0 := by
      have := gd_get hpl
      have hpp : ((p.toNat : Nat) : Int) = p := by omega
      rw [hpp] at this; omega
    have hc := List.countP_set (p := fun x : Int => decide (x < 0)) (l := ds) (a := d) hpl
    have hpos : 0 < ds.countP (fun x : Int => decide (x < 0)) := List.countP_pos_iff.2 ⟨_, List.getElem_mem hpl, by simpa using hn⟩
    have hm := h.mu
    simp only [hn, decide_true, if_true, show decide (d < 0) = false from decide_eq_false (by omega), Bool.false_eq_true, if_false] at hc
    rw [List.length_append, List.length_singleton, hc]
    omega
end Go.Proofs.YtdeokcbbjibkoaaDoor
/- StackDepths by the engine: what an instruction takes and leaves. -/
namespace Go.Proofs.YtdeokcbbjibkoaaDoor
open Go Go.RowKit
def TInstr.tv (x : TInstr) : List TV := [.int .i64 x.op, .int .i64 x.a, .int .i64 x.b, .str x.text]
end Go.Proofs.YtdeokcbbjibkoaaDoor
/- What the reference's way of the depths keeps of memory: plain lemmas, no walk. -/
namespace Go.Proofs.YtdeokcbbjibkoaaDoor
open Go Go.RowKit

/-- The depths' block. -/
def dArr (ds : List Int) : Array Value := (ds.map (Value.int .i64)).toArray
theorem dArr_set (ds : List Int) (p : Nat) (d : Int) : (dArr ds).setIfInBounds p (.int .i64 d) = dArr (ds.set p d) := by
  unfold dArr
  rw [List.setIfInBounds_toArray, List.map_set]
def nts (q : List Nat) : List Int := q.map Int.ofNat
theorem nts_append (a b : List Nat) : nts (a ++ b) = nts a ++ nts b := by simp [nts]
/-- A filled block is known whole. -/
theorem Fill.blk {w : World} {g : Nat} {e : TypeId} {xs : List Value} (h : Fill w g e xs.length xs) : Blk w g e xs.toArray := by
  obtain ⟨cur, h1, h2, _, h4⟩ := h
  have : cur = xs.toArray := by
    rw [List.take_of_length_le (by simp [h2])] at h4
    rw [← h4]
  rw [← this]; exact h1
def instrC (x : TInstr) : Array Value := #[.int .i64 x.op, .int .i64 x.a, .int .i64 x.b, .string x.text]
/-- The world between two rounds of the inner loop. -/
structure DepIn (w wi : World) (g B B2 gb : Nat) (x : TInstr) (L : List (Int × Int)) (A13 : Option Addr) (c13 : Nat) (A14 : Option Addr) (c14 : Nat) (r14 : List Int) (ds : List Int) (tl : List Nat) (A : Option Addr) (c : Nat) : Prop where
  own : Owned wi (fun b => g < b ∧ (b < B ∨ B2 ≤ b)) (.sl A c 1 (ints (nts tl)))
  dep : Blk wi g 3 (dArr ds)
  s13 : Seen wi (Rng B B2) (.sl A13 c13 1 (ints (L.map Prod.fst)))
  s14 : Seen wi (Rng B B2) (.sl A14 c14 1 (ints (L.map Prod.snd ++ r14)))
  box : Blk wi gb 46 (instrC x)
  old : Below w.heap.size w wi
  sz : B2 ≤ wi.heap.size
  hg : g < B
  hg0 : w.heap.size ≤ g
  hB : B ≤ B2
  hgb : B ≤ gb
  hgb2 : gb < B2
section
variable {w wi : World} {g B B2 gb : Nat} {x : TInstr} {L : List (Int × Int)} {A13 : Option Addr} {c13 : Nat} {A14 : Option Addr} {c14 : Nat} {r14 : List Int} {ds : List Int} {tl : List Nat} {A : Option Addr} {c : Nat}
theorem DepIn.set (h : DepIn w wi g B B2 gb x L A13 c13 A14 c14 r14 ds tl A c) (p : Nat) (d : Int) : DepIn w (wi.setCell ⟨g, p, none⟩ (.int .i64 d)) g B B2 gb x L A13 c13 A14 c14 r14 (ds.set p d) tl A c :=
  ⟨h.own.far (p := ⟨g, p, none⟩) (fun hh => by have := hh.1; simp at this) _, by rw [← dArr_set]; exact h.dep.set_ p _,
   h.s13.keep (fun b hb => Below.heap_setCell _ _ _ _ (by have := hb.1; have := h.hg; simp only; omega)) (fun _ hb _ => hb),
   h.s14.keep (fun b hb => Below.heap_setCell _ _ _ _ (by have := hb.1; have := h.hg; simp only; omega)) (fun _ hb _ => hb),
   h.box.far (p := ⟨g, p, none⟩) (by have := h.hg; have := h.hgb; simp only; omega) _, h.old.setCell h.hg0 _, by have := h.sz; simpa [World.setCell] using this, h.hg, h.hg0, h.hB, h.hgb, h.hgb2⟩
theorem DepIn.drewN (h : DepIn w wi g B B2 gb x L A13 c13 A14 c14 r14 ds tl A c) (n : Nat) : DepIn w (wi.drewN n) g B B2 gb x L A13 c13 A14 c14 r14 ds tl A c :=
  ⟨h.own.keep fun _ _ _ => rfl, h.dep, h.s13.keep (fun _ _ => rfl) fun _ hb _ => hb, h.s14.keep (fun _ _ => rfl) fun _ hb _ => hb, h.box, below_drewN h.old n, h.sz, h.hg, h.hg0, h.hB, h.hgb, h.hgb2⟩
theorem DepIn.push (h : DepIn w wi g B B2 gb x L A13 c13 A14 c14 r14 ds tl A c) {w2 : World} {A' : Option Addr} {c' p : Nat} (ho : Owned w2 (fun b => g < b ∧ (b < B ∨ B2 ≤ b)) (.sl A' c' 1 (ints (nts tl ++ [(p : Int)])))) (ht : Touch (· ∈ PT.rowOf A) wi w2) : DepIn w w2 g B B2 gb x L A13 c13 A14 c14 r14 ds (tl ++ [p]) A' c' := by
  have hA : ∀ b, b ∈ PT.rowOf A → g < b ∧ (b < B ∨ B2 ≤ b) := fun b hb => h.own.2.2 b (by simp [PT.blocks, hb])
  refine ⟨by rw [nts_append]; exact ho, h.dep.touch ht fun hb => by have := (hA g hb).1; omega, h.s13.touch ht fun b hb _ hm => ?_, h.s14.touch ht fun b hb _ hm => ?_, h.box.touch ht fun hb => ?_, h.old.trans (ht.below h.old.size fun b hb => by have := (hA b hb).1; have := h.hg0; omega), Nat.le_trans h.sz ht.size, h.hg, h.hg0, h.hB, h.hgb, h.hgb2⟩
  · have h1 := hA b hm; have h2 := hb.1; have h3 := hb.2; omega
  · have h1 := hA b hm; have h2 := hb.1; have h3 := hb.2; omega
  · have h1 := hA gb hb; have h2 := h.hgb; have h3 := h.hgb2; omega
end

/-- The world between two rounds of the outer loop. -/
structure DepOut (w wx : World) (g : Nat) (ds : List Int) (tl : List Nat) (A : Option Addr) (c : Nat) : Prop where
  own : Owned wx (g < ·) (.sl A c 1 (ints (nts tl)))
  dep : Blk wx g 3 (dArr ds)
  old : Below w.heap.size w wx
  hg0 : w.heap.size ≤ g
theorem DepOut.below {w wx w' : World} {g : Nat} {ds : List Int} {tl : List Nat} {A : Option Addr} {c : Nat} (h : DepOut w wx g ds tl A c) (hb : Below wx.heap.size wx w') : DepOut w w' g ds tl A c :=
  ⟨h.own.below hb, h.dep.below hb h.dep.lt, h.old.trans (hb.mono h.old.size), h.hg0⟩
theorem DepIn.out {w wi : World} {g B B2 gb : Nat} {x : TInstr} {L : List (Int × Int)} {A13 : Option Addr} {c13 : Nat} {A14 : Option Addr} {c14 : Nat} {r14 : List Int} {ds : List Int} {tl : List Nat} {A : Option Addr} {c : Nat} (h : DepIn w wi g B B2 gb x L A13 c13 A14 c14 r14 ds tl A c) : DepOut w wi g ds tl A c :=
  ⟨h.own.mono fun b hb _ => hb.1, h.dep, h.old, h.hg0⟩
end Go.Proofs.YtdeokcbbjibkoaaDoor
/- StackDepths by the engine: the reference's l16Depths. -/
namespace Go.Proofs.YtdeokcbbjibkoaaDoor
open Go Go.RowKit
end Go.Proofs.YtdeokcbbjibkoaaDoor
/- StackDepths by the engine: the reference's StackDepths, given l16Depths. -/
namespace Go.Proofs.YtdeokcbbjibkoaaDoor
open Go Go.RowKit
theorem l1In_ct {G : World → Prop} (n a b : Int) : Ct Tryd.prog G 21 [.int .i64 n, .int .i64 a, .int .i64 b] (fun _ => .bool (inR n a b)) := by
  refine ct_enter Tryd.func21 rfl Tryd.ntmps21 rfl rfl fun w0 _ hG => ?_
  repeat' (first | with_reducible refine al_none rfl ?_ | ((with_reducible first | apply o_move | apply o_assign); rfl; rfl) | ((with_reducible apply o_pick_t); rfl; rfl; (with_reducible rfl); rfl) | ((with_reducible apply o_pick_f); rfl; rfl; (with_reducible rfl); rfl) | ((with_reducible first | apply o_leq | apply o_geq); rfl; rfl; rfl) | with_reducible refine aw_seq ?_ | with_reducible refine aw_region ?_ | with_reducible refine al_nil ?_ | with_reducible refine aq_then ?_ | with_reducible refine aw_ret ?_ | refine al_run rfl rfl rfl (by with_reducible rfl) ?_ | refine al_skip rfl rfl rfl (by with_reducible rfl) rfl rfl rfl ?_ | (refine al_gsplit rfl rfl rfl (by with_reducible rfl) (fun hg => ?_) (fun hg => ?_)))
  all_goals
    refine aq_ret1 (by exact .inr rfl) rfl (.tmp _ _ rfl) (fun _ => ?_)
    refine fin_bool ?_
    simp only [inR]
    first | (rw [decide_eq_decide]; omega) | (symm; rw [decide_eq_false_iff_not]; omega)
theorem within_ct {G : World → Prop} (n a b : Int) : Ct Tryd.prog G 25 [.int .i64 n, .int .i64 a, .int .i64 b] (fun _ => .bool (inR n a b)) := by
  refine ct_enter Tryd.func25 rfl Tryd.ntmps25 rfl rfl fun w0 _ hG => ?_
  repeat' (first | with_reducible refine al_none rfl ?_ | ((with_reducible first | apply o_move | apply o_assign); rfl; rfl) | ((with_reducible apply o_pick_t); rfl; rfl; (with_reducible rfl); rfl) | ((with_reducible apply o_pick_f); rfl; rfl; (with_reducible rfl); rfl) | ((with_reducible first | apply o_leq | apply o_geq); rfl; rfl; rfl) | with_reducible refine aw_seq ?_ | with_reducible refine aw_region ?_ | with_reducible refine al_nil ?_ | with_reducible refine aq_then ?_ | with_reducible refine aw_ret ?_ | refine al_run rfl rfl rfl (by with_reducible rfl) ?_ | refine al_skip rfl rfl rfl (by with_reducible rfl) rfl rfl rfl ?_ | (refine al_gsplit rfl rfl rfl (by with_reducible rfl) (fun hg => ?_) (fun hg => ?_)))
  all_goals
    refine aq_ret1 (by exact .inr rfl) rfl (.tmp _ _ rfl) (fun _ => ?_)
    refine fin_bool ?_
    simp only [inR]
    first | (rw [decide_eq_decide]; omega) | (symm; rw [decide_eq_false_iff_not]; omega)
end Go.Proofs.YtdeokcbbjibkoaaDoor
/- The contracts of the functions on selectors, the program's and the reference's. -/
namespace Go.Proofs.YtdeokcbbjibkoaaDoor
open Go Go.RowKit

end Go.Proofs.YtdeokcbbjibkoaaDoor
/- LibraryAnswer: contracts of the small functions it calls. -/
namespace Go.Proofs.YtdeokcbbjibkoaaDoor
open Go Go.RowKit
/-- What the world must hold: the table of powers and one readable cell. -/
def GA (w : World) : Prop := MaxL w ∧ TabL w
theorem GA_st : Stable GA := ⟨fun _ _ h hb => ⟨MaxL.below h.1 hb, h.2.below hb⟩⟩
theorem specFmt_ct {G : World → Prop} (n : Int) (h0 : -9223372036854775808 ≤ n) (h1 : n ≤ 9223372036854775807) : Ct Tryd.prog G 57 [.int .i64 n] (fun _ => .str (numB n)) := ct_int_str fun w _ => specFormatInt_any n w h0 h1
theorem implFmt_ct (n : Int) (h0 : -9223372036854775808 ≤ n) (h1 : n ≤ 9223372036854775807) : Ct Tryd.prog GA 37 [.int .i64 n] (fun _ => .str (numB n)) := ct_int_str fun w hG => formatInt_any n w hG.2 h0 h1
theorem digitsOk_ct {G : World → Prop} (s : ByteArray) (hs : s.size ≤ 1048576) : Ct Tryd.prog G 35 [.str s] (fun _ => .bool (s.data.toList.all digit && inR s.size 1 10)) := ct_str_bool fun w _ => (digitsOk_is s _ rfl w hs).mono fun _ _ h => ⟨h.1, q_below h.2⟩
/-- A row of numbers that is read, in the elder form and in the walk's. -/
theorem rep_ints {w : World} {f : Nat} {zs : List Int} {v : Value} (h : Rep w [] (.sl f 1 (intR zs)) v) (hp : 0 < w.heap.size) : ∃ A c, v = .slice A zs.length c ∧ Seen w (· < w.heap.size) (.sl A c 1 (ints zs)) := by
  obtain ⟨A, c, rfl, g1, g2, g3, g4, g5⟩ := rep_sl h
  rw [intR_length] at g1
  refine ⟨A, c, by rw [intR_length], by rw [ints_length]; exact g1, g2, fun j u hj => ?_, ints_cells zs, seenL_ints _ _ _⟩
  rw [cellsL_ints, List.getElem?_map] at hj
  cases hz : zs[j]? with
  | none => rw [hz] at hj; cases hj
  | some z =>
    rw [hz] at hj
    cases hj
    obtain ⟨b, q, u, h1, h2, h3, h4⟩ := g5 j (.int .i64 z) (by rw [intR_flatten, List.getElem?_map, hz]; rfl)
    rw [h4.int_inv] at h3
    exact ⟨b, q, h1, lt_of_cell h3, h3⟩
theorem own_ints_rep {w' : World} {B : Nat} {A : Option Addr} {c : Nat} {zs : List Int} (h : Owned w' (B ≤ ·) (.sl A c 1 (ints zs))) {L : Nat} (hL : L ≤ B) : Rep w' (oldObjs B) (.sl L 1 (intR zs)) (.slice A zs.length c) := by
  obtain ⟨h1, h2, h3, h4, _⟩ := h.seen
  rw [ints_length] at h1
  have hl := intR_length zs
  have key : ∀ j, ∃ u, ∀ t, (intR zs).flatten[j]? = some t → (∃ b o, A = some ⟨b, o, none⟩ ∧ ZZ (oldObjs B) L b ∧ w'.cell? ⟨b, o + j, none⟩ = some u) ∧ Rep w' (oldObjs B) t u := fun j => by
    cases hz : zs[j]? with
    | none => exact ⟨undef, fun t ht => by rw [intR_flatten, List.getElem?_map, hz] at ht; cases ht⟩
    | some z =>
      obtain ⟨b, o, e1, e2, e3⟩ := h3 j (.int .i64 z) (by rw [cellsL_ints, List.getElem?_map, hz]; rfl)
      refine ⟨.int .i64 z, fun t ht => ?_⟩
      rw [intR_flatten, List.getElem?_map, hz] at ht
      cases ht
      exact ⟨⟨b, o, e1, ⟨Nat.le_trans hL e2, fun ha => by have := (alive_old.1 ha).2; omega⟩, e3⟩, .int _ _⟩
  have := Rep.sl (w := w') (objs := oldObjs B) L 1 (intR zs) A c (by omega) h2 (fun r hr => by
      simp only [intR, List.mem_map] at hr
      obtain ⟨x, _, rfl⟩ := hr; rfl) (fun t ht => by
      rw [intR_flatten] at ht
      obtain ⟨x, _, rfl⟩ := List.mem_map.1 ht; rfl) (fun j => Classical.choose (key j)) (fun j t hj => (Classical.choose_spec (key j) t hj).1) (fun j t hj => (Classical.choose_spec (key j) t hj).2)
  rw [hl] at this
  exact this
theorem sort_ct {G : World → Prop} {lo : Nat} {f : FuncId} {zs ts : List Int} (hl : ts.length = zs.length) (h : ∀ (A : Option Addr) (c : Nat) (w : World), Seen w (· < w.heap.size) (.sl A c 1 (ints zs)) → Calls Tryd.prog f #[.slice A zs.length c] w fun e w' => ∃ A' c', e = .returned (.slice A' zs.length c') ∧ Below w.heap.size w w' ∧ Owned w' (w.heap.size ≤ ·) (.sl A' c' 1 (ints ts))) : Ct Tryd.prog G f [.sl lo 1 (intR zs)] (fun K => .sl K 1 (intR ts)) := fun w vs hp hG hs hr => by
  obtain ⟨v, rfl, h1⟩ := reps1 hs hr
  obtain ⟨A, c, rfl, h2⟩ := rep_ints h1 hp
  refine (h A c w h2).mono ?_
  rintro e w' ⟨A', c', rfl, hb, ho⟩
  exact ⟨_, rfl, hb, fun L hL => hl ▸ own_ints_rep ho hL⟩
theorem specSort_ct {G : World → Prop} (lo : Nat) (zs : List Int) (hn : zs.length ≤ 1048576) : Ct Tryd.prog G 56 [.sl lo 1 (intR zs)] (fun K => .sl K 1 (intR (sorted zs))) :=
  sort_ct (sorted_length zs) fun A c w hs => by rw [← insSort_eq]; exact specSort_any A c zs w hs hn
theorem implSort_ct {G : World → Prop} (lo : Nat) (zs : List Int) (hn : zs.length ≤ 1048576) : Ct Tryd.prog G 36 [.sl lo 1 (intR zs)] (fun K => .sl K 1 (intR (sorted zs))) :=
  sort_ct (sorted_length zs) fun A c w hs => implSort_any A c zs w _ hs hn
/-- The digits of a text, on the side of the reference. -/
theorem l29Digits_ct {G : World → Prop} (s : ByteArray) (hs : s.size ≤ 1048576) (hd : s.data.toList.all digit = true) : Ct Tryd.prog G 33 [.str s] (fun K => .tup [.sl K 1 (intR (digN s.data.toList)), .bool (decide (s.size ≤ 10))]) := fun w vs hp hG hsz hr => by
  obtain ⟨v, rfl, h1⟩ := reps1 hsz hr
  rw [h1.str_inv]
  refine (l29Digits_any s w hs).mono ?_
  rintro e w' ⟨h2, hb⟩
  rw [if_pos hd] at h2
  obtain ⟨A, c, rfl, ho⟩ := h2
  refine ⟨_, rfl, hb, fun L hL => .tup _ _ rfl fun i t v ht hv => ?_⟩
  match i, ht, hv with
  | 0, ht, hv =>
    cases ht; cases hv
    have := own_ints_rep ho hL
    rw [digN_length, size_toList] at this
    exact this
  | 1, ht, hv => cases ht; cases hv; exact .bool _
theorem l29Digits_no {G : World → Prop} (s : ByteArray) (hs : s.size ≤ 1048576) (hd : ¬ s.data.toList.all digit = true) : Ct Tryd.prog G 33 [.str s] (fun _ => .tup [.nils, .bool false]) := fun w vs hp hG hsz hr => by
  obtain ⟨v, rfl, h1⟩ := reps1 hsz hr
  rw [h1.str_inv]
  refine (l29Digits_any s w hs).mono ?_
  rintro e w' ⟨h2, hb⟩
  rw [if_neg hd] at h2
  subst h2
  refine ⟨_, rfl, hb, fun L hL => .tup _ _ rfl fun i t v ht hv => ?_⟩
  match i, ht, hv with
  | 0, ht, hv => cases ht; cases hv; exact .nils
  | 1, ht, hv => cases ht; cases hv; exact .bool _
/-- Joined texts. -/
def joinB (xs : List ByteArray) (sep : ByteArray) : ByteArray := ⟨(Lib.join (xs.map (·.data.toList)) sep.data.toList).toArray⟩
theorem join_ct {G : World → Prop} (xs : List ByteArray) (sep : ByteArray) (hx : 0 < xs.length) (hN : xs.length ≤ 1048576) (hlen : (Lib.join (xs.map (·.data.toList)) sep.data.toList).length ≤ 140737488355328) : Ct Tryd.prog G 38 [.sl 0 1 (strR xs), .str sep] (fun _ => .str (joinB xs sep)) := fun w vs hp hG hsz hr => by
  obtain ⟨v, u, rfl, h1, h2⟩ := reps2 hsz hr
  rw [h2.str_inv]
  obtain ⟨A, c, rfl, g1, g2, g3, g4, g5⟩ := rep_sl h1
  have hsl := strR_len xs
  have hfl : ∀ j, (strR xs).flatten[j]? = (xs[j]?).map TV.str := fun j => by rw [strR_flatten, List.getElem?_map]
  obtain ⟨b, q, u0, e1, _, e3, _⟩ := g5 0 (.str xs[0]) (by rw [hfl, List.getElem?_eq_getElem hx]; rfl)
  subst e1
  rw [hsl]
  refine (Tryd.strings_Join b q c xs sep w (fun j x hj => ?_) (lt_of_cell e3) (by omega) (by omega) hlen).mono ?_
  · obtain ⟨b', q', u', e4, _, e5, e6⟩ := g5 j (.str x) (by rw [hfl, hj]; rfl)
    simp only [Option.some.injEq, Addr.mk.injEq, and_true] at e4
    obtain ⟨rfl, rfl⟩ := e4
    rw [e6.str_inv] at e5
    exact e5
  · rintro e w' ⟨rfl, hb⟩
    exact ⟨_, rfl, hb, fun _ _ => .str _⟩
/-- The reference's Join, item by item. -/
def joinN (xs : List ByteArray) (sep : ByteArray) (k : Nat) : List UInt8 := Lib.join ((xs.take k).map (·.data.toList)) sep.data.toList
theorem joinN_zero (xs : List ByteArray) (sep : ByteArray) : joinN xs sep 0 = [] := rfl
theorem joinN_one {xs : List ByteArray} (sep : ByteArray) (h : 0 < xs.length) : joinN xs sep 1 = xs[0].data.toList := by
  unfold joinN
  rw [List.take_add_one, List.getElem?_eq_getElem h]
  simp [Lib.join_one]
theorem joinN_succ {xs : List ByteArray} {sep : ByteArray} {k : Nat} (h : k < xs.length) (hk : 0 < k) : joinN xs sep (k + 1) = joinN xs sep k ++ sep.data.toList ++ xs[k].data.toList := by
  unfold joinN
  rw [List.take_add_one, List.getElem?_eq_getElem h]
  obtain ⟨x, r, hx⟩ : ∃ x r, xs.take k = x :: r := by
    cases hx : xs.take k with
    | nil => have h2 := congrArg List.length hx; rw [List.length_take] at h2; simp only [List.length_nil] at h2; omega
    | cons x r => exact ⟨x, r, rfl⟩
  rw [hx]
  simp [Lib.join_cons, Lib.joinTail, List.append_assoc]
theorem specJoin_ct {G : World → Prop} (xs : List ByteArray) (sep : ByteArray) (hs : sep.size ≤ 10) (hn : xs.length ≤ 1000) (hb : ∀ k, k ≤ xs.length → (joinN xs sep k).length ≤ 100000) (hx : ∀ x ∈ xs, ByteArray.size x ≤ 1000) : Ct Tryd.prog G 58 [.sl 0 1 (strR xs), .str sep] (fun _ => .str (joinB xs sep)) := by
  refine ct_enter Tryd.func58 rfl Tryd.ntmps58 rfl rfl fun w0 _ hG => ?_
  have hsl := strR_len xs
  repeat' (first | with_reducible refine al_none rfl ?_ | ((with_reducible apply o_assign); rfl; rfl) | ((with_reducible apply o_own); rfl; rfl; kernel_rfl; kernel_rfl; rfl; kernel_rfl; rfl; rfl; rfl; rfl; intro ss bb) | with_reducible refine aw_seq ?_ | with_reducible refine aw_region ?_ | with_reducible refine al_nil ?_ | with_reducible refine aq_then ?_ | with_reducible refine aw_block ?_)
  generalize ss = sa; generalize bb = b0
  apply aw_loopk (X := Nat × Nat) [0, 1] (fun x => [(5, .ms sa x.2 0 (joinN xs sep x.1).length), (6, .int .i64 (x.1 : Int))]) (fun x => [(sa, x.2, .row 1 (bytR (joinN xs sep x.1)))]) (fun x => x.1 ≤ xs.length) (fun x => xs.length - x.1) (0, b0) (Nat.zero_le _)
  (repeat (first | exact Kept.nil | (apply Kept.cons; rfl))); (repeat (first | exact Weak.envNil | refine Weak.envCons (by rfl) ?_))
  · exact .refl _
  rintro ⟨k, b1⟩ hk
  dsimp only at hk ⊢
  have hbk := hb k hk
  by_cases hlt : k < xs.length
  · have hrow := strR_row hlt
    have hbn := hb (k + 1) (by omega)
    have hxk := hx _ (List.getElem_mem hlt)
    by_cases h0 : k = 0
    · subst h0
      have hone := joinN_one sep hlt
      generalize xs[0] = x at hrow hone hxk
      have hxl := size_toList x
      rw [joinN_zero]
      simp only [List.length_nil]
      rw [show (0 + 1 : Nat) = 1 from rfl, hone] at hbn
      repeat' (first | with_reducible refine al_none rfl ?_ | ((with_reducible first | apply o_move | apply o_assign); rfl; rfl) | ((with_reducible apply o_load_cp); rfl; rfl; kernel_rfl; rfl; rfl) | ((with_reducible apply o_indexAddr); rfl; rfl; rfl; kernel_rfl; kernel_rfl; kernel_rfl; rfl; ((with_reducible exact rfl)); ((with_reducible assumption))) | ((with_reducible apply o_len_sl); rfl; rfl; kernel_rfl; (exact List.length_map _)) | ((with_reducible apply o_len_ms); rfl; rfl; kernel_rfl) | ((with_reducible first | apply o_lss | apply o_gtr); rfl; rfl; rfl) | ((with_reducible apply o_add); rfl; rfl; rfl; (((with_reducible refine w_n1 ?_); omega))) | ((with_reducible apply o_append_s); rfl; rfl; rfl; kernel_rfl; kernel_rfl; (repeat (with_reducible exact mh)); (rfl); rfl; omega; (intro bq; (repeat (with_reducible exact Upd.head _))); intro bb) | with_reducible refine aw_seq ?_ | with_reducible refine aw_region ?_ | with_reducible refine al_nil ?_ | with_reducible refine aq_then ?_ | with_reducible refine aw_block ?_ | with_reducible refine aw_skip ?_ | with_reducible refine aq_block ?_ | (refine aw_cond_dt rfl (by with_reducible rfl) (by first | assumption | omega) ?_) | (refine aw_cond_df rfl (by with_reducible rfl) (by omega) ?_))
      have hz : ([] : List UInt8) ++ x.data.toList = joinN xs sep 1 := hone.symm
      have hzl : 0 + x.size = (joinN xs sep 1).length := by rw [← hz]; simp [hxl]
      rw [hz]
      exact aq_round (1, bb) (by dsimp only; omega) (by dsimp only; omega) (.of _ (Weak.envCons (lk_ms rfl hzl) (Weak.envCons rfl Weak.envNil)) (by repeat (first | exact Weak.envNil | refine Weak.envCons rfl ?_)) (by (try dsimp only); (repeat (with_reducible exact Pick.refl _))))
    · have hone := joinN_succ (sep := sep) hlt (by omega)
      generalize xs[k] = x at hrow hone hxk
      have hxl := size_toList x
      have hsl2 := size_toList sep
      have hlen : (joinN xs sep k ++ sep.data.toList).length = (joinN xs sep k).length + sep.size := by rw [List.length_append, hsl2]
      have hlen3 : (joinN xs sep k).length + sep.size + x.size = (joinN xs sep (k + 1)).length := by rw [hone]; simp only [List.length_append]; omega
      repeat' (first | with_reducible refine al_none rfl ?_ | ((with_reducible first | apply o_move | apply o_assign); rfl; rfl) | ((with_reducible apply o_load_cp); rfl; rfl; kernel_rfl; rfl; rfl) | ((with_reducible apply o_indexAddr); rfl; rfl; rfl; kernel_rfl; kernel_rfl; kernel_rfl; rfl; ((with_reducible exact rfl)); ((with_reducible assumption))) | ((with_reducible apply o_len_sl); rfl; rfl; kernel_rfl; (exact List.length_map _)) | ((with_reducible apply o_len_ms); rfl; rfl; kernel_rfl) | ((with_reducible first | apply o_lss | apply o_gtr); rfl; rfl; rfl) | ((with_reducible apply o_add); rfl; rfl; rfl; (((with_reducible refine w_n1 ?_); omega))) | ((with_reducible apply o_append_s); rfl; rfl; rfl; kernel_rfl; kernel_rfl; (repeat (with_reducible exact mh)); (first | with_reducible assumption | rfl); rfl; omega; (intro bq; (repeat (with_reducible exact Upd.head _))); intro bb) | with_reducible refine aw_seq ?_ | with_reducible refine aw_region ?_ | with_reducible refine al_nil ?_ | with_reducible refine aq_then ?_ | with_reducible refine aw_block ?_ | with_reducible refine aw_skip ?_ | with_reducible refine aq_block ?_ | (refine aw_cond_dt rfl (by with_reducible rfl) (by first | assumption | omega) ?_) | (refine aw_cond_df rfl (by with_reducible rfl) (by first | assumption | omega) ?_))
      rw [← hone]
      exact aq_round (k + 1, bb) (by dsimp only; omega) (by dsimp only; omega) (.of _ (Weak.envCons (lk_ms rfl hlen3) (Weak.envCons rfl Weak.envNil)) (by repeat (first | exact Weak.envNil | refine Weak.envCons rfl ?_)) (by (try dsimp only); (repeat (with_reducible exact Pick.refl _))))
  · obtain rfl : k = xs.length := by omega
    have hfull : joinB xs sep = ⟨(joinN xs sep xs.length).toArray⟩ := by unfold joinB joinN; rw [List.take_of_length_le (Nat.le_refl _)]
    rw [hfull]
    repeat' (first | with_reducible refine al_none rfl ?_ | ((with_reducible first | apply o_move | apply o_assign); rfl; rfl) | ((with_reducible apply o_len_sl); rfl; rfl; kernel_rfl; (exact List.length_map _)) | ((with_reducible apply o_lss); rfl; rfl; rfl) | ((with_reducible apply o_conv_bytes); rfl; rfl; (repeat (with_reducible exact mh)); (rfl); kernel_rfl; kernel_rfl; kernel_rfl) | with_reducible refine aw_seq ?_ | with_reducible refine aw_region ?_ | with_reducible refine al_nil ?_ | with_reducible refine aq_then ?_ | with_reducible refine aw_exit ?_ | with_reducible refine aw_ret ?_ | with_reducible refine aq_block_hit ?_ | with_reducible refine aq_then_exit ?_ | (refine aw_cond_df rfl (by with_reducible rfl) (by first | assumption | omega) ?_))
    refine aq_ret1 (by exact .inr rfl) rfl (.tmp _ _ rfl) (fun _ => ?_)
    exact Fin.flat rfl
end Go.Proofs.YtdeokcbbjibkoaaDoor
/- LibraryAnswer: what both sides compute (no program in sight). -/
namespace Go.Proofs.YtdeokcbbjibkoaaDoor
open Go Go.RowKit
def fac : Nat → Int
  | 0 => 1
  | m + 1 => fac m * ((m + 1 : Nat) : Int)
def sm : Nat → Int
  | 0 => 0
  | m + 1 => sm m + ((m + 1 : Nat) : Int)
theorem fac_bd : ∀ m, m < 11 → 1 ≤ fac m ∧ fac m ≤ 3628800 := by decide
theorem sm_bd : ∀ m, m < 11 → 0 ≤ sm m ∧ sm m ≤ 55 := by decide
def outs (m : Nat) : List ByteArray := (List.range m).map fun i => numB (sm (i + 1))
theorem outs_succ (m : Nat) : outs (m + 1) = outs m ++ [numB (sm (m + 1))] := by simp [outs, List.range_succ]
theorem outs_len (m : Nat) : (outs m).length = m := by simp [outs]
/-- One more than where the first number greater than n stands, or 0. -/
def firstGt (n : Int) : List Int → Int
  | [] => 0
  | d :: r => if n < d then 1 else (if firstGt n r = 0 then 0 else firstGt n r + 1)
def FG (n : Int) (l : List Int) (i : Nat) : Int := if firstGt n (l.drop i) = 0 then 0 else firstGt n (l.drop i) + i
theorem firstGt_ge (n : Int) : ∀ l, 0 ≤ firstGt n l ∧ firstGt n l ≤ l.length
  | [] => ⟨Int.le_refl _, Int.le_refl _⟩
  | d :: r => by
    have := firstGt_ge n r
    unfold firstGt
    simp only [List.length_cons]
    split
    · omega
    · split <;> omega
theorem FG_step {n : Int} {l : List Int} {i : Nat} (h : i < l.length) : FG n l i = if n < l[i] then ((i + 1 : Nat) : Int) else FG n l (i + 1) := by
  unfold FG
  rw [List.drop_eq_getElem_cons h]
  have hg := firstGt_ge n (l.drop (i + 1))
  conv => lhs; unfold firstGt
  by_cases h1 : n < l[i]
  · simp [h1]; omega
  · simp only [h1, if_false]
    by_cases h2 : firstGt n (l.drop (i + 1)) = 0
    · simp [h2]
    · simp only [h2, if_false]
      rw [if_neg (by omega)]
      omega
theorem FG_end (n : Int) (l : List Int) : FG n l l.length = 0 := by simp [FG, firstGt]
theorem FG_zero (n : Int) (l : List Int) : FG n l 0 = firstGt n l := by
  unfold FG
  simp only [List.drop_zero]
  split <;> omega
def part (d : Int) : Int := if 0 < d then Int.tdiv 10 d else 0
def divN (l : List Int) (k : Nat) : Int := ((l.take k).map part).sum
theorem divN_succ {l : List Int} {k : Nat} (h : k < l.length) : divN l (k + 1) = divN l k + part l[k] := by
  unfold divN
  rw [List.take_add_one, List.getElem?_eq_getElem h, List.map_append, List.sum_append]
  simp only [Option.toList_some, List.map_cons, List.map_nil, List.sum_cons, List.sum_nil]
  omega
theorem part_bd {d : Int} (h : 0 ≤ d ∧ d ≤ 9) : 0 ≤ part d ∧ part d ≤ 10 := by
  have : d = 0 ∨ d = 1 ∨ d = 2 ∨ d = 3 ∨ d = 4 ∨ d = 5 ∨ d = 6 ∨ d = 7 ∨ d = 8 ∨ d = 9 := by omega
  rcases this with rfl | rfl | rfl | rfl | rfl | rfl | rfl | rfl | rfl | rfl <;> decide
theorem divN_bd {l : List Int} (h : ∀ d ∈ l, 0 ≤ d ∧ d ≤ 9) : ∀ k, k ≤ l.length → 0 ≤ divN l k ∧ divN l k ≤ 10 * (k : Int)
  | 0, _ => by simp [divN]
  | k + 1, hk => by
    have ih := divN_bd h k (by omega)
    have hp := part_bd (h l[k] (List.getElem_mem (by omega)))
    rw [divN_succ (by omega)]
    omega
def numsB (l : List Int) : List ByteArray := l.map numB
/-- The number that the digits begin with. -/
def headN (l : List Int) : Int := l.headD 0
def ansS (k : Int) (l : List Int) : ByteArray :=
  if k = 2 then ⟨#[40]⟩ ++ joinB (numsB (sorted l)) ⟨#[32]⟩ ++ ⟨#[41]⟩
  else if k = 1 then numB (fac (headN l).toNat)
  else if k = 3 then numB (sm (headN l).toNat)
  else if k = 4 then numB (firstGt (headN l) l)
  else numB (divN l l.length)
def ansO (k : Int) (l : List Int) : List ByteArray := if k = 3 then outs (headN l).toNat else []
theorem digN_in {l : List UInt8} (h : l.all digit = true) : ∀ d ∈ digN l, 0 ≤ d ∧ d ≤ 9 := fun d hd => by
  simp only [digN, List.mem_map] at hd
  obtain ⟨b, hb, rfl⟩ := hd
  have := digit_b (List.all_eq_true.1 h b hb)
  omega
theorem sorted_in {l : List Int} {p : Int → Prop} (h : ∀ d ∈ l, p d) : ∀ d ∈ sorted l, p d := fun d hd => h d (List.mem_mergeSort.1 hd)
theorem numB_small {d : Int} (h : 0 ≤ d ∧ d ≤ 9) : (numB d).size ≤ 20 := numB_size (by omega) (by omega)
theorem joinN_bd {xs : List ByteArray} {sep : ByteArray} (hs : sep.size ≤ 1) (hx : ∀ x ∈ xs, ByteArray.size x ≤ 20) : ∀ k, k ≤ xs.length → (joinN xs sep k).length ≤ 21 * k
  | 0, _ => by simp [joinN_zero]
  | k + 1, hk => by
    have hxk := hx xs[k] (List.getElem_mem (by omega))
    have h1 := size_toList xs[k]
    have h2 := size_toList sep
    by_cases h0 : k = 0
    · subst h0
      rw [joinN_one sep (by omega)]
      omega
    · have ih := joinN_bd hs hx k (by omega)
      rw [joinN_succ (by omega) (by omega)]
      simp only [List.length_append]
      omega
theorem joinB_size {xs : List ByteArray} {sep : ByteArray} (hs : sep.size ≤ 1) (hx : ∀ x ∈ xs, ByteArray.size x ≤ 20) : (Lib.join (xs.map (·.data.toList)) sep.data.toList).length ≤ 21 * xs.length := by
  have := joinN_bd hs hx xs.length (Nat.le_refl _)
  unfold joinN at this
  rw [List.take_of_length_le (Nat.le_refl _)] at this
  exact this
end Go.Proofs.YtdeokcbbjibkoaaDoor
/- LibraryAnswer of the reference. -/
namespace Go.Proofs.YtdeokcbbjibkoaaDoor
open Go Go.RowKit
theorem fin_strs {B L s b n : Nat} {objs : Objs} {l : List ByteArray} (hn : l.length = n) (hm : (s, b, TObj.row 1 (strR l)) ∈ objs) : Fin B objs L (.ms s b 0 n) (.sl L 1 (strR l)) := by
  subst hn
  have hl := strR_len l
  exact Fin.msFlat hm (by omega) (by rw [List.drop_zero, List.take_of_length_le (by omega)]) (strR_flat l)
theorem numsB_take {l : List Int} {k : Nat} (h : k < l.length) : numsB (l.take (k + 1)) = numsB (l.take k) ++ [numB l[k]] := by
  unfold numsB
  rw [List.take_add_one, List.getElem?_eq_getElem h, List.map_append]; rfl
set_option maxRecDepth 8000 in
set_option maxHeartbeats 8000000 in
theorem l29Value_ct {G : World → Prop} (hst : Stable G) (k : Int) (hk : 1 ≤ k ∧ k ≤ 5) (l : List Int) (hl : 1 ≤ l.length ∧ l.length ≤ 10) (hd : ∀ d ∈ l, 0 ≤ d ∧ d ≤ 9) (lo : Nat) :
    Ct Tryd.prog G 34 [.int .i64 k, .sl lo 1 (intR l)] (fun K => .tup [.str (ansS k l), .sl K 1 (strR (ansO k l))]) := by
  refine ct_enter Tryd.func34 rfl Tryd.ntmps34 rfl rfl fun w0 _ hG => ?_
  have hll := intR_length l
  obtain ⟨n, hn⟩ : ∃ n : Nat, headN l = n := by
    obtain ⟨d, r, rfl⟩ : ∃ d r, l = d :: r := by
      cases l with
      | nil => simp at hl
      | cons d r => exact ⟨d, r, rfl⟩
    have := hd d (by simp)
    exact ⟨d.toNat, by simp [headN]; omega⟩
  have hn9 : n ≤ 9 := by
    obtain ⟨d, r, rfl⟩ : ∃ d r, l = d :: r := by
      cases l with
      | nil => simp at hl
      | cons d r => exact ⟨d, r, rfl⟩
    have := hd d (by simp)
    simp [headN] at hn
    omega
  have hr0 : (intR l)[0]? = some [.int .i64 (n : Int)] := by
    obtain ⟨d, r, rfl⟩ : ∃ d r, l = d :: r := by
      cases l with
      | nil => simp at hl
      | cons d r => exact ⟨d, r, rfl⟩
    simp [headN] at hn
    rw [← hn]; rfl
  have hS := fun h : k = 3 => show ansO k l = outs n by simp [ansO, h, hn]
  have hS0 := fun h : k ≠ 3 => show ansO k l = [] by simp [ansO, h]
  repeat' (first | with_reducible refine al_none rfl ?_ | ((with_reducible first | apply o_move | apply o_assign); rfl; rfl) | ((with_reducible apply o_load_cp); rfl; rfl; kernel_rfl; rfl; rfl) | ((with_reducible apply o_indexAddr); rfl; rfl; rfl; kernel_rfl; kernel_rfl; kernel_rfl; rfl; ((with_reducible exact nat0)); ((with_reducible assumption))) | ((with_reducible apply o_own); rfl; rfl; kernel_rfl; kernel_rfl; rfl; kernel_rfl; rfl; rfl; rfl; rfl; intro ss bb) | with_reducible refine aw_hold_r (id := 5) ?_ | with_reducible refine aw_seq ?_ | with_reducible refine aw_region ?_ | with_reducible refine al_nil ?_ | with_reducible refine aq_then ?_ | with_reducible refine aw_block ?_)
  refine ⟨?_⟩
  generalize ss = so; generalize bb = bo
  have hk5 : k = 1 ∨ k = 2 ∨ k = 3 ∨ k = 4 ∨ k = 5 := by omega
  rcases hk5 with rfl | rfl | rfl | rfl | rfl
  · have hans : ansS 1 l = numB (fac n) := by simp [ansS, hn]
    have hout := hS0 (by decide)
    rw [hans, hout]
    have hb := fun m h => fac_bd m h
    repeat' (first | with_reducible refine al_none rfl ?_ | ((with_reducible apply o_assign); rfl; rfl) | ((with_reducible apply o_eql); rfl; rfl; rfl) | with_reducible refine aw_seq ?_ | with_reducible refine aw_region ?_ | with_reducible refine al_nil ?_ | with_reducible refine aq_then ?_ | with_reducible refine aw_block ?_ | (refine aw_cond_dt rfl (by with_reducible rfl) (by first | assumption | omega) ?_))
    apply aw_loopk (X := Nat) [6, 7] (fun i => [(8, .int .i64 (fac i)), (9, .int .i64 ((i + 1 : Nat) : Int))]) (fun _ => [(so, bo, .row 1 [])]) (fun i => 1 ≤ i ∧ (i ≤ n ∨ i = 1)) (fun i => 10 - i) 1 ⟨Nat.le_refl _, .inr rfl⟩
    (repeat (first | exact Kept.nil | (apply Kept.cons; rfl))); (repeat (first | exact Weak.envNil | refine Weak.envCons (by rfl) ?_))
    · exact .refl _
    rintro i ⟨h1, hi⟩
    try dsimp only
    by_cases hlt : i + 1 ≤ n
    · have hmul : IntKind.i64.wrap (fac i * ((i + 1 : Nat) : Int)) = fac (i + 1) := by
        have := hb (i + 1) (by omega)
        exact IntWalk.i64_in _ (by show -9223372036854775808 ≤ fac (i + 1) ∧ fac (i + 1) ≤ 9223372036854775807; omega)
      repeat' (first | with_reducible refine al_none rfl ?_ | ((with_reducible first | apply o_move | apply o_assign); rfl; rfl) | ((with_reducible apply o_leq); rfl; rfl; rfl) | ((with_reducible first | apply o_add | apply o_mul); rfl; rfl; rfl; (first | ((with_reducible first | refine w_n1 ?_ | refine IntWalk.i64_in _ ?_); omega) | (with_reducible assumption))) | with_reducible refine aw_seq ?_ | with_reducible refine aw_region ?_ | with_reducible refine al_nil ?_ | with_reducible refine aq_then ?_ | with_reducible refine aw_block ?_ | with_reducible refine aw_skip ?_ | with_reducible refine aq_block ?_ | (refine aw_cond_dt rfl (by with_reducible rfl) (by first | assumption | omega) ?_))
      exact aq_round (i + 1) ⟨by omega, .inl (by omega)⟩ (by omega) (.of _ (by repeat (first | exact Weak.envNil | refine Weak.envCons (by rfl) ?_)) (by repeat (first | exact Weak.envNil | refine Weak.envCons rfl ?_)) (by (try dsimp only); (repeat (with_reducible exact Pick.refl _))))
    · have hfn : fac i = fac n := by
        by_cases h2 : i = n
        · rw [h2]
        · have h3 : i = 1 := by omega
          have h4 : n = 0 := by omega
          rw [h3, h4]; rfl
      have := hb n (by omega)
      have hf := specFmt_ct (G := G) (fac n) (by omega) (by omega)
      rw [hfn]
      repeat' (first | with_reducible refine al_none rfl ?_ | ((with_reducible first | apply o_move | apply o_assign); rfl; rfl) | ((with_reducible apply o_leq); rfl; rfl; rfl) | ((with_reducible apply o_call); rfl; kernel_rfl; (repeat (first | exact Args.nil | ((with_reducible apply Args.cons); rfl; exact .same _))); exact hG; exact hst; exact hf) | with_reducible refine aw_seq ?_ | with_reducible refine aw_region ?_ | with_reducible refine al_nil ?_ | with_reducible refine aq_then ?_ | with_reducible refine aw_exit ?_ | with_reducible refine aw_ret ?_ | with_reducible refine aq_block_hit ?_ | with_reducible refine aq_then_exit ?_ | with_reducible refine aq_block ?_ | (refine aw_cond_df rfl (by with_reducible rfl) (by first | assumption | omega) ?_))
      refine aq_ret2 (by exact .inr rfl) rfl (.tmp _ _ rfl) (.tmp _ _ rfl) (fun _ => ?_) (fun _ => ?_)
      · exact Fin.flat rfl
      · exact fin_strs (l := []) rfl List.mem_cons_self
  · have hans : ansS 2 l = ⟨#[40]⟩ ++ joinB (numsB (sorted l)) ⟨#[32]⟩ ++ ⟨#[41]⟩ := by simp [ansS]
    have hout := hS0 (by decide)
    rw [hans, hout]
    have hsl := sorted_length l
    have hsr := intR_length (sorted l)
    have hsd := sorted_in hd
    have hso := specSort_ct (G := G) lo l (by omega)
    have hfmt := fun d (h : 0 ≤ d ∧ d ≤ 9) => specFmt_ct (G := G) d (by omega) (by omega)
    have hsz : ∀ x ∈ numsB (sorted l), ByteArray.size x ≤ 20 := fun x hx => by
      simp only [numsB, List.mem_map] at hx
      obtain ⟨d, hd', rfl⟩ := hx
      exact numB_small (hsd d hd')
    have hnl : (numsB (sorted l)).length = l.length := by simp [numsB, hsl]
    have hjs := joinB_size (sep := ⟨#[32]⟩) (by decide) hsz
    have hj := specJoin_ct (G := G) (numsB (sorted l)) ⟨#[32]⟩ (by decide) (by omega) (fun k hk => by have := joinN_bd (sep := ⟨#[32]⟩) (by decide) hsz k hk; omega) (fun x hx => by have := hsz x hx; omega)
    have hjb : (joinB (numsB (sorted l)) ⟨#[32]⟩).size ≤ 1000 := by
      show ((Lib.join _ _).toArray).size ≤ 1000
      rw [List.size_toArray]; omega
    repeat' (first | with_reducible refine al_none rfl ?_ | ((with_reducible first | apply o_move | apply o_assign); rfl; rfl) | ((with_reducible apply o_eql); rfl; rfl; rfl) | ((with_reducible apply o_own); rfl; rfl; kernel_rfl; kernel_rfl; rfl; kernel_rfl; rfl; rfl; rfl; rfl; intro ss bb) | ((with_reducible apply o_callV); rfl; kernel_rfl; exact hG; exact hst; exact hso; (repeat (first | exact Args.nil | ((with_reducible apply Args.cons); rfl; (with_reducible exact View.same _))))) | with_reducible refine aw_seq ?_ | with_reducible refine aw_region ?_ | with_reducible refine al_nil ?_ | with_reducible refine aq_then ?_ | with_reducible refine aw_block ?_ | (refine aw_cond_dt rfl (by with_reducible rfl) (by first | assumption | omega) ?_) | (refine aw_cond_df rfl (by with_reducible rfl) (by omega) ?_))
    generalize ss = sp; generalize bb = bp
    apply aw_loopk (X := Nat × Nat) [6, 11] (fun x => [(10, .ms sp x.2 0 x.1), (12, .int .i64 (x.1 : Int))]) (fun x => [(sp, x.2, .row 1 (strR (numsB ((sorted l).take x.1)))), (so, bo, .row 1 [])]) (fun x => x.1 ≤ (sorted l).length) (fun x => (sorted l).length - x.1) (0, bp) (Nat.zero_le _)
    (repeat (first | exact Kept.nil | (apply Kept.cons; rfl))); (repeat (first | exact Weak.envNil | refine Weak.envCons (by rfl) ?_))
    · exact (by (try dsimp only); (repeat (first | with_reducible exact Pick.refl _ | (apply Pick.consE; (repeat (with_reducible exact DelS.head _)); (rfl)))))
    rintro ⟨i, bq⟩ hi
    dsimp only at hi ⊢
    have hrl : (strR (numsB ((sorted l).take i))).length = i := by rw [strR_len]; simp [numsB]; omega
    by_cases hlt : i < (sorted l).length
    · have hrow := intR_get hlt
      have hdi := hfmt _ (hsd _ (List.getElem_mem hlt))
      have hst2 := numsB_take hlt
      generalize (sorted l)[i] = d at hrow hdi hst2
      have hsn := strR_snoc (numsB ((sorted l).take i)) (numB d)
      rw [← hst2] at hsn
      repeat' (first | with_reducible refine al_none rfl ?_ | ((with_reducible first | apply o_move | apply o_assign); rfl; rfl) | ((with_reducible apply o_load_cp); rfl; rfl; kernel_rfl; rfl; rfl) | ((with_reducible apply o_indexAddr); rfl; rfl; rfl; kernel_rfl; kernel_rfl; kernel_rfl; rfl; ((with_reducible exact rfl)); ((with_reducible assumption))) | ((with_reducible apply o_len_sl); rfl; rfl; kernel_rfl; (exact List.length_map _)) | ((with_reducible apply o_lss); rfl; rfl; rfl) | ((with_reducible apply o_add); rfl; rfl; rfl; (((with_reducible refine w_n1 ?_); omega))) | ((with_reducible apply o_lit); rfl; rfl; kernel_rfl; kernel_rfl; rfl; kernel_rfl; rfl; rfl; rfl; rfl) | ((with_reducible apply o_append); rfl; rfl; rfl; kernel_rfl; (repeat (with_reducible exact mh)); (with_reducible assumption); ((show List.length _ = 1; rfl)); omega; rfl; (intro bq; (repeat (with_reducible exact Upd.head _))); intro bb) | ((with_reducible apply o_call); rfl; kernel_rfl; (repeat (first | exact Args.nil | ((with_reducible apply Args.cons); rfl; exact .same _))); exact hG; exact hst; exact hdi) | with_reducible refine aw_seq ?_ | with_reducible refine aw_region ?_ | with_reducible refine al_nil ?_ | with_reducible refine aq_then ?_ | with_reducible refine aw_block ?_ | with_reducible refine aw_skip ?_ | with_reducible refine aq_block ?_ | (refine aw_cond_dt rfl (by with_reducible rfl) (by first | assumption | omega) ?_))
      rw [hsn]
      exact aq_round (i + 1, bb) (by dsimp only; omega) (by dsimp only; omega) (.of _ (by repeat (first | exact Weak.envNil | refine Weak.envCons (by rfl) ?_)) (by repeat (first | exact Weak.envNil | refine Weak.envCons rfl ?_)) (by (try dsimp only); (repeat (with_reducible exact Pick.refl _))))
    · obtain rfl : i = (sorted l).length := by omega
      rw [List.take_of_length_le (Nat.le_refl _)] at hrl ⊢
      generalize joinB (numsB (sorted l)) ⟨#[32]⟩ = J at hj hjb ⊢
      have hA1 : (⟨#[40]⟩ : ByteArray).size + J.size ≤ 9223372036854775807 := by show 1 + J.size ≤ _; omega
      have hA2 : ((⟨#[40]⟩ : ByteArray) ++ J).size + (⟨#[41]⟩ : ByteArray).size ≤ 9223372036854775807 := by rw [ByteArray.size_append]; show 1 + J.size + 1 ≤ _; omega
      repeat' (first | with_reducible refine al_none rfl ?_ | ((with_reducible first | apply o_move | apply o_assign); rfl; rfl) | ((with_reducible apply o_len_sl); rfl; rfl; kernel_rfl; (exact List.length_map _)) | ((with_reducible apply o_lss); rfl; rfl; rfl) | ((with_reducible apply o_add_s); rfl; rfl; rfl; (assumption)) | ((with_reducible apply o_callV); rfl; kernel_rfl; exact hG; exact hst; exact hj; (repeat (first | exact Args.nil | ((with_reducible apply Args.cons); rfl; (first | with_reducible exact View.same _ | ((with_reducible apply View.msAll); (repeat (with_reducible exact mh)); (with_reducible assumption))))))) | with_reducible refine aw_seq ?_ | with_reducible refine aw_region ?_ | with_reducible refine al_nil ?_ | with_reducible refine aq_then ?_ | with_reducible refine aw_exit ?_ | with_reducible refine aw_ret ?_ | with_reducible refine aq_block_hit ?_ | with_reducible refine aq_then_exit ?_ | with_reducible refine aq_then_ret ?_ | with_reducible refine aq_block_ret ?_ | (refine aw_cond_df rfl (by with_reducible rfl) (by first | assumption | omega) ?_))
      refine aq_ret2 (by exact .inr rfl) rfl (.tmp _ _ rfl) (.tmp _ _ rfl) (fun _ => ?_) (fun _ => ?_)
      · exact Fin.flat rfl
      · exact fin_strs (l := []) rfl (List.mem_cons_of_mem _ List.mem_cons_self)
  · have hans : ansS 3 l = numB (sm n) := by simp [ansS, hn]
    rw [hans, hS rfl]
    have hb := fun m h => sm_bd m h
    repeat' (first | with_reducible refine al_none rfl ?_ | ((with_reducible apply o_assign); rfl; rfl) | ((with_reducible apply o_eql); rfl; rfl; rfl) | with_reducible refine aw_seq ?_ | with_reducible refine aw_region ?_ | with_reducible refine al_nil ?_ | with_reducible refine aq_then ?_ | with_reducible refine aw_block ?_ | (refine aw_cond_dt rfl (by with_reducible rfl) (by first | assumption | omega) ?_) | (refine aw_cond_df rfl (by with_reducible rfl) (by omega) ?_))
    apply aw_loopk (X := Nat × Nat) [7] (fun x => [(8, .int .i64 (sm x.1)), (13, .int .i64 ((x.1 + 1 : Nat) : Int)), (6, .ms so x.2 0 x.1)]) (fun x => [(so, x.2, .row 1 (strR (outs x.1)))]) (fun x => x.1 ≤ n) (fun x => n - x.1) (0, bo) (Nat.zero_le _)
    (repeat (first | exact Kept.nil | (apply Kept.cons; rfl))); (repeat (first | exact Weak.envNil | refine Weak.envCons (by rfl) ?_))
    · exact .refl _
    rintro ⟨i, bq⟩ hi
    dsimp only at hi ⊢
    have hrl : (strR (outs i)).length = i := by rw [strR_len, outs_len]
    by_cases hlt : i + 1 ≤ n
    · have hb1 := hb (i + 1) (by omega)
      have hb0 := hb i (by omega)
      have hsm : sm (i + 1) = sm i + ((i + 1 : Nat) : Int) := rfl
      have hf := specFmt_ct (G := G) (sm i + ((i + 1 : Nat) : Int)) (by omega) (by omega)
      have hsn := strR_snoc (outs i) (numB (sm i + ((i + 1 : Nat) : Int)))
      rw [← hsm, ← outs_succ] at hsn
      repeat' (first | with_reducible refine al_none rfl ?_ | ((with_reducible first | apply o_move | apply o_assign); rfl; rfl) | ((with_reducible apply o_leq); rfl; rfl; rfl) | ((with_reducible apply o_add); rfl; rfl; rfl; (((with_reducible first | refine w_n1 ?_ | refine IntWalk.i64_in _ ?_); omega))) | ((with_reducible apply o_lit); rfl; rfl; kernel_rfl; kernel_rfl; rfl; kernel_rfl; rfl; rfl; rfl; rfl) | ((with_reducible apply o_append); rfl; rfl; rfl; kernel_rfl; (repeat (with_reducible exact mh)); (with_reducible assumption); ((show List.length _ = 1; rfl)); omega; rfl; (intro bq; (repeat (with_reducible exact Upd.head _))); intro bb) | ((with_reducible apply o_call); rfl; kernel_rfl; (repeat (first | exact Args.nil | ((with_reducible apply Args.cons); rfl; exact .same _))); exact hG; exact hst; exact hf) | with_reducible refine aw_seq ?_ | with_reducible refine aw_region ?_ | with_reducible refine al_nil ?_ | with_reducible refine aq_then ?_ | with_reducible refine aw_block ?_ | with_reducible refine aw_skip ?_ | with_reducible refine aq_block ?_ | (refine aw_cond_dt rfl (by with_reducible rfl) (by first | assumption | omega) ?_))
      rw [← hsm, hsn]
      exact aq_round (i + 1, bb) (by dsimp only; omega) (by dsimp only; omega) (.of _ (by repeat (first | exact Weak.envNil | refine Weak.envCons (by rfl) ?_)) (by repeat (first | exact Weak.envNil | refine Weak.envCons rfl ?_)) (by (try dsimp only); (repeat (with_reducible exact Pick.refl _))))
    · obtain rfl : i = n := by omega
      have := hb i (by omega)
      have hf := specFmt_ct (G := G) (sm i) (by omega) (by omega)
      repeat' (first | with_reducible refine al_none rfl ?_ | ((with_reducible first | apply o_move | apply o_assign); rfl; rfl) | ((with_reducible apply o_leq); rfl; rfl; rfl) | ((with_reducible apply o_call); rfl; kernel_rfl; (repeat (first | exact Args.nil | ((with_reducible apply Args.cons); rfl; exact .same _))); exact hG; exact hst; exact hf) | with_reducible refine aw_seq ?_ | with_reducible refine aw_region ?_ | with_reducible refine al_nil ?_ | with_reducible refine aq_then ?_ | with_reducible refine aw_exit ?_ | with_reducible refine aw_ret ?_ | with_reducible refine aq_block_hit ?_ | with_reducible refine aq_then_exit ?_ | with_reducible refine aq_block ?_ | (refine aw_cond_df rfl (by with_reducible rfl) (by first | assumption | omega) ?_))
      refine aq_ret2 (by exact .inr rfl) rfl (.tmp _ _ rfl) (.tmp _ _ rfl) (fun _ => ?_) (fun _ => ?_)
      · exact Fin.flat rfl
      · exact fin_strs (outs_len i) List.mem_cons_self
  · have hans : ansS 4 l = numB (firstGt (n : Int) l) := by simp [ansS, hn]
    have hout := hS0 (by decide)
    rw [hans, hout, ← FG_zero]
    have hg := firstGt_ge (n : Int) l
    rw [← FG_zero] at hg
    repeat' (first | with_reducible refine al_none rfl ?_ | ((with_reducible first | apply o_move | apply o_assign); rfl; rfl) | ((with_reducible apply o_len_sl); rfl; rfl; kernel_rfl; (exact List.length_map _)) | ((with_reducible apply o_eql); rfl; rfl; rfl) | ((with_reducible apply o_sub); rfl; rfl; rfl; (((with_reducible refine w_nm1 ?_); omega))) | with_reducible refine aw_seq ?_ | with_reducible refine aw_region ?_ | with_reducible refine al_nil ?_ | with_reducible refine aq_then ?_ | with_reducible refine aw_block ?_ | (refine aw_cond_dt rfl (by with_reducible rfl) (by first | assumption | omega) ?_) | (refine aw_cond_df rfl (by with_reducible rfl) (by omega) ?_))
    apply aw_loopk (X := Nat) [1, 6, 7] (fun i => [(8, .int .i64 (FG (n : Int) l i)), (14, .int .i64 ((i : Int) - 1))]) (fun _ => [(so, bo, .row 1 [])]) (fun i => i ≤ l.length) (fun i => i) l.length (Nat.le_refl _)
    case hk => (repeat (first | exact Kept.nil | (apply Kept.cons; rfl)))
    · exact Weak.envCons (lk_int rfl (by rw [FG_end])) (Weak.envCons (lk_int rfl (by omega)) Weak.envNil)
    · exact .refl _
    intro i hi
    try dsimp only
    by_cases h0 : 1 ≤ i
    · obtain ⟨j, rfl⟩ : ∃ j, i = j + 1 := ⟨i - 1, by omega⟩
      have hjl : j < l.length := by omega
      have hrow := intR_get hjl
      have hstep := FG_step (n := (n : Int)) hjl
      generalize l[j] = d at hrow hstep
      rw [show ((j + 1 : Nat) : Int) - 1 = (j : Int) by omega]
      by_cases hnd : (n : Int) < d
      · rw [if_pos hnd] at hstep
        repeat' (first | with_reducible refine al_none rfl ?_ | ((with_reducible first | apply o_move | apply o_assign); rfl; rfl) | ((with_reducible apply o_load_cp); rfl; rfl; kernel_rfl; rfl; rfl) | ((with_reducible apply o_indexAddr); rfl; rfl; rfl; kernel_rfl; kernel_rfl; kernel_rfl; rfl; ((with_reducible exact rfl)); ((with_reducible assumption))) | ((with_reducible first | apply o_gtr | apply o_geq); rfl; rfl; rfl) | ((with_reducible first | apply o_add | apply o_sub); rfl; rfl; rfl; (first | ((with_reducible first | refine w_n1 ?_ | refine w_nm1 ?_); omega) | ((with_reducible refine IntWalk.i64_in _ ?_); omega))) | with_reducible refine aw_seq ?_ | with_reducible refine aw_region ?_ | with_reducible refine al_nil ?_ | with_reducible refine aq_then ?_ | with_reducible refine aw_block ?_ | with_reducible refine aw_skip ?_ | with_reducible refine aq_block ?_ | (refine aw_cond_dt rfl (by with_reducible rfl) (by first | assumption | omega) ?_))
        exact aq_round j (by omega) (by omega) (.of _ (Weak.envCons (lk_int rfl hstep.symm) (Weak.envCons rfl Weak.envNil)) (by repeat (first | exact Weak.envNil | refine Weak.envCons rfl ?_)) (by (try dsimp only); (repeat (with_reducible exact Pick.refl _))))
      · rw [if_neg hnd] at hstep
        repeat' (first | with_reducible refine al_none rfl ?_ | ((with_reducible first | apply o_move | apply o_assign); rfl; rfl) | ((with_reducible apply o_load_cp); rfl; rfl; kernel_rfl; rfl; rfl) | ((with_reducible apply o_indexAddr); rfl; rfl; rfl; kernel_rfl; kernel_rfl; kernel_rfl; rfl; ((with_reducible exact rfl)); ((with_reducible assumption))) | ((with_reducible first | apply o_gtr | apply o_geq); rfl; rfl; rfl) | ((with_reducible apply o_sub); rfl; rfl; rfl; (((with_reducible refine IntWalk.i64_in _ ?_); omega))) | with_reducible refine aw_seq ?_ | with_reducible refine aw_region ?_ | with_reducible refine al_nil ?_ | with_reducible refine aq_then ?_ | with_reducible refine aw_block ?_ | with_reducible refine aw_skip ?_ | with_reducible refine aq_block ?_ | (refine aw_cond_dt rfl (by with_reducible rfl) (by first | assumption | omega) ?_) | (refine aw_cond_df rfl (by with_reducible rfl) (by assumption) ?_))
        exact aq_round j (by omega) (by omega) (.of _ (Weak.envCons (lk_int rfl hstep.symm) (Weak.envCons rfl Weak.envNil)) (by repeat (first | exact Weak.envNil | refine Weak.envCons rfl ?_)) (by (try dsimp only); (repeat (with_reducible exact Pick.refl _))))
    · obtain rfl : i = 0 := by omega
      have hf := specFmt_ct (G := G) (FG (n : Int) l 0) (by omega) (by omega)
      repeat' (first | with_reducible refine al_none rfl ?_ | ((with_reducible first | apply o_move | apply o_assign); rfl; rfl) | ((with_reducible apply o_geq); rfl; rfl; rfl) | ((with_reducible apply o_call); rfl; kernel_rfl; (repeat (first | exact Args.nil | ((with_reducible apply Args.cons); rfl; exact .same _))); exact hG; exact hst; exact hf) | with_reducible refine aw_seq ?_ | with_reducible refine aw_region ?_ | with_reducible refine al_nil ?_ | with_reducible refine aq_then ?_ | with_reducible refine aw_exit ?_ | with_reducible refine aw_ret ?_ | with_reducible refine aq_block_hit ?_ | with_reducible refine aq_then_exit ?_ | with_reducible refine aq_block ?_ | (refine aw_cond_df rfl (by with_reducible rfl) (by first | assumption | omega) ?_))
      refine aq_ret2 (by exact .inr rfl) rfl (.tmp _ _ rfl) (.tmp _ _ rfl) (fun _ => ?_) (fun _ => ?_)
      · exact Fin.flat rfl
      · exact fin_strs (l := []) rfl List.mem_cons_self
  · have hans : ansS 5 l = numB (divN l l.length) := by simp [ansS]
    have hout := hS0 (by decide)
    rw [hans, hout]
    have hbd := divN_bd hd
    repeat' (first | with_reducible refine al_none rfl ?_ | ((with_reducible apply o_assign); rfl; rfl) | ((with_reducible apply o_eql); rfl; rfl; rfl) | with_reducible refine aw_seq ?_ | with_reducible refine aw_region ?_ | with_reducible refine al_nil ?_ | with_reducible refine aq_then ?_ | with_reducible refine aw_block ?_ | (refine aw_cond_dt rfl (by with_reducible rfl) (by first | assumption | omega) ?_) | (refine aw_cond_df rfl (by with_reducible rfl) (by omega) ?_))
    apply aw_loopk (X := Nat) [1, 6] (fun i => [(8, .int .i64 (divN l i)), (15, .int .i64 (i : Int))]) (fun _ => [(so, bo, .row 1 [])]) (fun i => i ≤ l.length) (fun i => l.length - i) 0 (Nat.zero_le _)
    (repeat (first | exact Kept.nil | (apply Kept.cons; rfl))); (repeat (first | exact Weak.envNil | refine Weak.envCons (by rfl) ?_))
    · exact .refl _
    intro i hi
    try dsimp only
    have hb0 := hbd i hi
    by_cases hlt : i < l.length
    · have hrow := intR_get hlt
      have hsc := divN_succ hlt
      have hp := hd _ (List.getElem_mem hlt)
      have hpb := part_bd hp
      generalize l[i] = d at hrow hsc hp hpb
      by_cases hd0 : 0 < d
      · have hq : IntKind.i64.wrap (Int.tdiv 10 d) = part d := by
          unfold part at hpb ⊢
          rw [if_pos hd0] at hpb ⊢
          exact IntWalk.i64_in _ (by omega)
        repeat' (first | with_reducible refine al_none rfl ?_ | ((with_reducible first | apply o_move | apply o_assign); rfl; rfl) | ((with_reducible apply o_load_cp); rfl; rfl; kernel_rfl; rfl; rfl) | ((with_reducible apply o_indexAddr); rfl; rfl; rfl; kernel_rfl; kernel_rfl; kernel_rfl; rfl; ((with_reducible exact rfl)); ((with_reducible assumption))) | ((with_reducible apply o_len_sl); rfl; rfl; kernel_rfl; (exact List.length_map _)) | ((with_reducible first | apply o_lss | apply o_gtr); rfl; rfl; rfl) | ((with_reducible apply o_add); rfl; rfl; rfl; (((with_reducible first | refine w_n1 ?_ | refine IntWalk.i64_in _ ?_); omega))) | ((with_reducible apply o_quo); rfl; rfl; rfl; omega; ((with_reducible assumption))) | with_reducible refine aw_seq ?_ | with_reducible refine aw_region ?_ | with_reducible refine al_nil ?_ | with_reducible refine aq_then ?_ | with_reducible refine aw_block ?_ | with_reducible refine aw_skip ?_ | with_reducible refine aq_block ?_ | (refine aw_cond_dt rfl (by with_reducible rfl) (by first | assumption | omega) ?_))
        exact aq_round (i + 1) (by omega) (by omega) (.of _ (Weak.envCons (lk_int rfl hsc.symm) (Weak.envCons rfl Weak.envNil)) (by repeat (first | exact Weak.envNil | refine Weak.envCons rfl ?_)) (by (try dsimp only); (repeat (with_reducible exact Pick.refl _))))
      · have hz : part d = 0 := if_neg hd0
        rw [hz, Int.add_zero] at hsc
        repeat' (first | with_reducible refine al_none rfl ?_ | ((with_reducible first | apply o_move | apply o_assign); rfl; rfl) | ((with_reducible apply o_load_cp); rfl; rfl; kernel_rfl; rfl; rfl) | ((with_reducible apply o_indexAddr); rfl; rfl; rfl; kernel_rfl; kernel_rfl; kernel_rfl; rfl; ((with_reducible exact rfl)); ((with_reducible assumption))) | ((with_reducible apply o_len_sl); rfl; rfl; kernel_rfl; (exact List.length_map _)) | ((with_reducible first | apply o_lss | apply o_gtr); rfl; rfl; rfl) | ((with_reducible apply o_add); rfl; rfl; rfl; (((with_reducible refine w_n1 ?_); omega))) | with_reducible refine aw_seq ?_ | with_reducible refine aw_region ?_ | with_reducible refine al_nil ?_ | with_reducible refine aq_then ?_ | with_reducible refine aw_block ?_ | with_reducible refine aw_skip ?_ | with_reducible refine aq_block ?_ | (refine aw_cond_dt rfl (by with_reducible rfl) (by first | assumption | omega) ?_) | (refine aw_cond_df rfl (by with_reducible rfl) (by assumption) ?_))
        exact aq_round (i + 1) (by omega) (by omega) (.of _ (Weak.envCons (lk_int rfl hsc.symm) (Weak.envCons rfl Weak.envNil)) (by repeat (first | exact Weak.envNil | refine Weak.envCons rfl ?_)) (by (try dsimp only); (repeat (with_reducible exact Pick.refl _))))
    · obtain rfl : i = l.length := by omega
      have hf := specFmt_ct (G := G) (divN l l.length) (by omega) (by omega)
      repeat' (first | with_reducible refine al_none rfl ?_ | ((with_reducible first | apply o_move | apply o_assign); rfl; rfl) | ((with_reducible apply o_len_sl); rfl; rfl; kernel_rfl; (exact List.length_map _)) | ((with_reducible apply o_lss); rfl; rfl; rfl) | ((with_reducible apply o_call); rfl; kernel_rfl; (repeat (first | exact Args.nil | ((with_reducible apply Args.cons); rfl; exact .same _))); exact hG; exact hst; exact hf) | with_reducible refine aw_seq ?_ | with_reducible refine aw_region ?_ | with_reducible refine al_nil ?_ | with_reducible refine aq_then ?_ | with_reducible refine aw_exit ?_ | with_reducible refine aw_ret ?_ | with_reducible refine aq_block_hit ?_ | with_reducible refine aq_then_exit ?_ | with_reducible refine aq_block ?_ | (refine aw_cond_df rfl (by with_reducible rfl) (by first | assumption | omega) ?_))
      refine aq_ret2 (by exact .inr rfl) rfl (.tmp _ _ rfl) (.tmp _ _ rfl) (fun _ => ?_) (fun _ => ?_)
      · exact Fin.flat rfl
      · exact fin_strs (l := []) rfl List.mem_cons_self
/-- What both sides give back. -/
def laR (k : Int) (s : ByteArray) (K : Nat) : TV := if okLib k s = true then .tup [.str (ansS k (digN s.data.toList)), .sl K 1 (strR (ansO k (digN s.data.toList))), .bool true] else .tup [.str ⟨#[]⟩, .sl K 1 (strR []), .bool false]
set_option maxRecDepth 8000 in
theorem specLibraryAnswer_ct (k : Int) (s : ByteArray) (hs : s.size ≤ 1048576) : Ct Tryd.prog GA 14 [.int .i64 k, .str s] (laR k s) := by
  have hst := GA_st
  by_cases hd : s.data.toList.all digit = true
  · have hdg := l29Digits_ct (G := GA) s hs hd
    have hdl := digN_length s.data.toList
    rw [size_toList] at hdl
    have hin := digN_in hd
    have hi5 := l1In_ct (G := GA) k 1 5
    have hrl := intR_length (digN s.data.toList)
    by_cases ho : okLib k s = true
    · have hl : laR k s = fun K => .tup [.str (ansS k (digN s.data.toList)), .sl K 1 (strR (ansO k (digN s.data.toList))), .bool true] := by funext K; exact if_pos ho
      rw [hl]
      refine ct_enter Tryd.func14 rfl Tryd.ntmps14 rfl rfl fun w0 _ hG => ?_
      have hw := okLib_ways ho
      have hv := l29Value_ct hst k (by omega) (digN s.data.toList) (by omega) hin w0.heap.size
      rw [inR_t (by omega)] at hi5
      rw [decide_eq_true hw.2.2.2] at hdg
      generalize ansS k (digN s.data.toList) = A at hv ⊢
      generalize ansO k (digN s.data.toList) = O at hv ⊢
      have hne : ¬ s.size = 0 := by omega
      generalize digN s.data.toList = l at hdg hdl hv hrl
      repeat' (first | with_reducible refine al_none rfl ?_ | ((with_reducible first | apply o_move | apply o_assign); rfl; rfl) | ((with_reducible apply o_pick_f); rfl; rfl; (with_reducible rfl); rfl) | ((with_reducible apply o_len_sl); rfl; rfl; kernel_rfl; (exact List.length_map _)) | ((with_reducible first | apply o_eql | apply o_extract); rfl; rfl; rfl) | ((with_reducible apply o_not_t); rfl; rfl; (with_reducible rfl)) | ((with_reducible apply o_call); rfl; kernel_rfl; (repeat (first | exact Args.nil | ((with_reducible apply Args.cons); rfl; exact .same _))); exact hG; exact hst; first | exact hdg | exact hi5 | exact hv) | with_reducible refine aw_seq ?_ | with_reducible refine aw_region ?_ | with_reducible refine al_nil ?_ | with_reducible refine aq_then ?_ | with_reducible refine aw_skip ?_ | with_reducible refine aw_ret ?_ | refine al_run rfl rfl rfl (by with_reducible rfl) ?_ | (refine aw_cond_df rfl (by with_reducible rfl) (by first | assumption | omega) ?_))
      refine aq_ret3 (by exact .inr rfl) rfl (.tmp _ _ rfl) (.tmp _ _ rfl) (.tmp _ _ rfl) (fun _ => ?_) (fun _ => ?_) (fun _ => ?_)
      · exact Fin.flat rfl
      · exact fin_sl (fun x => .cons (.flat rfl) .nil) _
      · exact Fin.flat rfl
    · have hl : laR k s = fun K => .tup [.str ⟨#[]⟩, .sl K 1 (strR []), .bool false] := by funext K; exact if_neg ho
      rw [hl]
      have hw : ¬ ((1 ≤ k ∧ k ≤ 5) ∧ 1 ≤ s.size ∧ s.size ≤ 10) := fun h => ho (by simp [okLib, inR, hd, h]; omega)
      refine ct_enter Tryd.func14 rfl Tryd.ntmps14 rfl rfl fun w0 _ hG => ?_
      generalize digN s.data.toList = l at hdg hdl hrl
      by_cases h10 : s.size ≤ 10
      · rw [decide_eq_true h10] at hdg
        by_cases hk : 1 ≤ k ∧ k ≤ 5
        · rw [inR_t hk] at hi5
          have h0 : l.length = 0 := by omega
          repeat' (first | with_reducible refine al_none rfl ?_ | ((with_reducible first | apply o_move | apply o_assign); rfl; rfl) | ((with_reducible apply o_pick_f); rfl; rfl; (with_reducible rfl); rfl) | ((with_reducible apply o_len_sl); rfl; rfl; kernel_rfl; (exact List.length_map _)) | ((with_reducible first | apply o_eql | apply o_extract); rfl; rfl; rfl) | ((with_reducible apply o_not_t); rfl; rfl; (with_reducible rfl)) | ((with_reducible apply o_call); rfl; kernel_rfl; (repeat (first | exact Args.nil | ((with_reducible apply Args.cons); rfl; exact .same _))); exact hG; exact hst; first | exact hdg | exact hi5) | with_reducible refine aw_seq ?_ | with_reducible refine aw_region ?_ | with_reducible refine al_nil ?_ | with_reducible refine aq_then ?_ | with_reducible refine aw_ret ?_ | with_reducible refine aq_then_ret ?_ | refine al_run rfl rfl rfl (by with_reducible rfl) ?_ | (refine aw_cond_dt rfl (by with_reducible rfl) (by first | assumption | omega) ?_))
          refine aq_ret3 (by exact .inr rfl) rfl (.tmp _ _ rfl) (.tmp _ _ rfl) (.tmp _ _ rfl) (fun _ => ?_) (fun _ => ?_) (fun _ => ?_)
          · exact Fin.flat rfl
          · exact .nils 1
          · exact Fin.flat rfl
        · rw [inR_f hk] at hi5
          repeat' (first | with_reducible refine al_none rfl ?_ | ((with_reducible first | apply o_move | apply o_assign); rfl; rfl) | ((with_reducible apply o_pick_t); rfl; rfl; (with_reducible rfl); rfl) | ((with_reducible apply o_pick_f); rfl; rfl; (with_reducible rfl); rfl) | ((with_reducible apply o_extract); rfl; rfl; rfl) | ((with_reducible apply o_not_t); rfl; rfl; (with_reducible rfl)) | ((with_reducible apply o_not_f); rfl; rfl; (with_reducible rfl)) | ((with_reducible apply o_call); rfl; kernel_rfl; (repeat (first | exact Args.nil | ((with_reducible apply Args.cons); rfl; exact .same _))); exact hG; exact hst; first | exact hdg | exact hi5) | with_reducible refine aw_seq ?_ | with_reducible refine aw_region ?_ | with_reducible refine al_nil ?_ | with_reducible refine aq_then ?_ | with_reducible refine aw_ret ?_ | with_reducible refine aq_then_ret ?_ | refine al_run rfl rfl rfl (by with_reducible rfl) ?_ | refine al_skip rfl rfl rfl (by with_reducible rfl) rfl rfl rfl ?_ | refine aw_cond_t rfl (by with_reducible rfl) ?_)
          refine aq_ret3 (by exact .inr rfl) rfl (.tmp _ _ rfl) (.tmp _ _ rfl) (.tmp _ _ rfl) (fun _ => ?_) (fun _ => ?_) (fun _ => ?_)
          · exact Fin.flat rfl
          · exact .nils 1
          · exact Fin.flat rfl
      · rw [decide_eq_false h10] at hdg
        repeat' (first | with_reducible refine al_none rfl ?_ | ((with_reducible first | apply o_move | apply o_assign); rfl; rfl) | ((with_reducible apply o_pick_t); rfl; rfl; (with_reducible rfl); rfl) | ((with_reducible apply o_extract); rfl; rfl; rfl) | ((with_reducible apply o_not_f); rfl; rfl; (with_reducible rfl)) | ((with_reducible apply o_call); rfl; kernel_rfl; (repeat (first | exact Args.nil | ((with_reducible apply Args.cons); rfl; exact .same _))); exact hG; exact hst; first | exact hdg) | with_reducible refine aw_seq ?_ | with_reducible refine aw_region ?_ | with_reducible refine al_nil ?_ | with_reducible refine aq_then ?_ | with_reducible refine aw_ret ?_ | with_reducible refine aq_then_ret ?_ | refine al_skip rfl rfl rfl (by with_reducible rfl) rfl rfl rfl ?_ | refine aw_cond_t rfl (by with_reducible rfl) ?_)
        refine aq_ret3 (by exact .inr rfl) rfl (.tmp _ _ rfl) (.tmp _ _ rfl) (.tmp _ _ rfl) (fun _ => ?_) (fun _ => ?_) (fun _ => ?_)
        · exact Fin.flat rfl
        · exact .nils 1
        · exact Fin.flat rfl
  · have hdg := l29Digits_no (G := GA) s hs hd
    have ho : ¬ okLib k s = true := fun h => hd (okLib_ways h).2.1
    have hl : laR k s = fun K => .tup [.str ⟨#[]⟩, .sl K 1 (strR []), .bool false] := by funext K; exact if_neg ho
    rw [hl]
    refine ct_enter Tryd.func14 rfl Tryd.ntmps14 rfl rfl fun w0 _ hG => ?_
    repeat' (first | with_reducible refine al_none rfl ?_ | ((with_reducible first | apply o_move | apply o_assign); rfl; rfl) | ((with_reducible apply o_pick_t); rfl; rfl; (with_reducible rfl); rfl) | ((with_reducible apply o_extract); rfl; rfl; rfl) | ((with_reducible apply o_not_f); rfl; rfl; (with_reducible rfl)) | ((with_reducible apply o_call); rfl; kernel_rfl; (repeat (first | exact Args.nil | ((with_reducible apply Args.cons); rfl; exact .same _))); exact hG; exact hst; exact hdg) | with_reducible refine aw_seq ?_ | with_reducible refine aw_region ?_ | with_reducible refine al_nil ?_ | with_reducible refine aq_then ?_ | with_reducible refine aw_ret ?_ | with_reducible refine aq_then_ret ?_ | refine al_skip rfl rfl rfl (by with_reducible rfl) rfl rfl rfl ?_ | refine aw_cond_t rfl (by with_reducible rfl) ?_)
    refine aq_ret3 (by exact .inr rfl) rfl (.tmp _ _ rfl) (.tmp _ _ rfl) (.tmp _ _ rfl) (fun _ => ?_) (fun _ => ?_) (fun _ => ?_)
    · exact Fin.flat rfl
    · exact .nils 1
    · exact Fin.flat rfl
end Go.Proofs.YtdeokcbbjibkoaaDoor
