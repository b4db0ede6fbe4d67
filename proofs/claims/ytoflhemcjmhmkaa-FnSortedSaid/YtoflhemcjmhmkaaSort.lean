/- The contracts of SortNumbers, the program's and the reference's: both give back a new slice with the numbers in order. -/
import Derived.Test.YtoflhemcjmhmkaaInts
import Derived.Test.YtoflhemcjmhmkaaShelf
import Derived.Sort.OwnSortedInts
import Derived.Deep.RegionLaw
import Derived.StillTailTactics
namespace Go.Proofs.Ytoflhemcjmhmkaa
open Go Go.RowKit

def sorted (zs : List Int) : List Int := zs.mergeSort fun x y => decide (x ≤ y)
theorem sorted_length (zs : List Int) : (sorted zs).length = zs.length := by simp [sorted]

theorem owned_sorted {w : World} {S : Nat → Prop} {g c nn : Nat} {os : Array Obj} {zs ts : List Int} (h : Owned w S (.sl (some ⟨g, 0, none⟩) c 1 (ints zs))) (hl : ts.length = zs.length) :
    Owned (Sort.grow (Sort.putRow (Value.int .i64) (Sort.ahead w nn) g 0 ts.toArray) os) S (.sl (some ⟨g, 0, none⟩) c 1 (ints ts)) := by
  rcases own_row h.1 with ⟨h1, _⟩ | ⟨g', cur, e, hA, hg, hn, hc, hs, ht⟩
  · simp at h1
  · simp only [Option.some.injEq, Addr.mk.injEq, and_true] at hA
    subst hA
    have hl' : (ints ts).length = ts.length := by simp [ints]
    have hn' : zs.length ≤ c := by simpa [ints] using hn
    refine ⟨own_of_block (ints_cells ts) (by rw [cellsL_ints]; simp [ints]) (heap_sortedI _ hg) (by omega) hc (by simpa [Sort.putCells] using hs) ?_ (ownL_ints _ _), by simp [PT.blocks, blocksL_ints, PT.rowOf],
      fun b hb => h.2.2 b (by simpa [PT.blocks, blocksL_ints] using hb)⟩
    rw [hl', Nat.mul_one, cellsL_ints]
    exact take_putCellsI cur ts (by omega)

theorem holds_owned {w : World} {S : Nat → Prop} {g c : Nat} {zs : List Int} (h : Owned w S (.sl (some ⟨g, 0, none⟩) c 1 (ints zs))) : Sort.Holds (Value.int .i64) w g 0 zs.toArray ∧ g < w.heap.size := by
  rcases own_row h.1 with ⟨h1, _⟩ | ⟨g', cur, e, hA, hg, hn, hc, hs, ht⟩
  · simp at h1
  · simp only [Option.some.injEq, Addr.mk.injEq, and_true] at hA
    subst hA
    rw [cellsL_ints, ints_length, Nat.mul_one] at ht
    exact ⟨holds_of_blockI hg ht, (Array.getElem?_eq_some_iff.1 hg).1⟩

set_option maxHeartbeats 400000 in
theorem implSort_any (A : Option Addr) (c : Nat) (zs : List Int) (w : World) (S : Nat → Prop) (hs : Seen w S (.sl A c 1 (ints zs))) (hn : zs.length ≤ 1048576) :
    Calls Try.prog 7 #[.slice A zs.length c] w fun e w' => ∃ A' c', e = .returned (.slice A' zs.length c') ∧ Below w.heap.size w w' ∧ Owned w' (w.heap.size ≤ ·) (.sl A' c' 1 (ints (sorted zs))) := by
  obtain ⟨i0, hi0, hz0, hz1, hz2⟩ := info_parts Try.infoInt
  go_enter Try.func7, Try.ntmps7
  go_wp2_with (at_builtin; refine wpList_append_pt _ rfl (.tmp 4) (.tmp 5) _ rfl 3 i0 _ 1 8 Try.underlying24 hi0 hz0 hz1 hz2 rfl (by omega) (S := (w.heap.size ≤ ·)) (S2 := (· < w.heap.size)) (some ⟨w.heap.size, 0, none⟩) A 0 c 0 zs.length [] (ints zs) rfl rfl (owned_made _ _ (Nat.le_refl _)) (hs.2.2.1.here.keep (fun b hb => Below.heap_alloc _ _ _ hb) fun _ h _ => h) rfl (ints_length zs).symm (ints_cells zs) (ownL_ints _ _) (by simp [PT.blocks, PT.blocksL, PT.rowOf, blocksL_ints]) (by simp [blocksL_ints]) (by simp) (by simp only [maxLen]; omega) (by omega) ?_; intro A' c' w1 how ht hA')
  rw [List.nil_append] at how
  have hb1 : Below w.heap.size w w1 := ((Below.refl _ _).alloc (Nat.le_refl _) _).trans (ht.below (by simp) (fun b hb => by simp [PT.rowOf] at hb; omega))
  obtain ⟨g, rfl⟩ : ∃ g, A' = some ⟨g, 0, none⟩ := by rcases hA' with rfl | rfl <;> exact ⟨_, rfl⟩
  obtain ⟨hH, hg⟩ := holds_owned how
  have hge : w.heap.size ≤ g := how.2.2 g (by simp [PT.blocks, PT.rowOf])
  clear hA' hs
  go_wp2_with fail
  have e0 : (0 : Nat) + zs.length = zs.length := Nat.zero_add _
  refine (Try.slices_Sort_int g 0 c' zs w1 hH hg (by omega)).mono ?_
  rintro e w' ⟨rfl, nn, os, rfl⟩
  go_wp2
  go_ret
  refine ⟨_, _, rfl, hb1.grown (grownBy_sortedI _) hb1.size (fun k hk => by cases hk; exact hge), owned_sorted how (sorted_length zs)⟩

/-- x put in its place in a list that is in order: behind all that are not greater. -/
def insPos (x : Int) : List Int → Nat → Nat
  | _, 0 => 0
  | l, k + 1 => if l.getD k 0 > x then insPos x l k else k + 1
def insAt (x : Int) (l : List Int) : List Int := l.take (insPos x l l.length) ++ x :: l.drop (insPos x l l.length)
def insSort (zs : List Int) : List Int := zs.foldl (fun acc x => insAt x acc) []
theorem insPos_le (x : Int) (l : List Int) (k : Nat) : insPos x l k ≤ k := by
  induction k with
  | zero => simp [insPos]
  | succ k ih => unfold insPos; split <;> omega

theorem insAt_length (x : Int) (l : List Int) : (insAt x l).length = l.length + 1 := by
  have := insPos_le x l l.length
  simp [insAt]; omega
theorem insSort_length (zs : List Int) : (insSort zs).length = zs.length := by
  have : ∀ (zs acc : List Int), (zs.foldl (fun acc x => insAt x acc) acc).length = acc.length + zs.length := by
    intro zs
    induction zs with
    | nil => simp
    | cons z r ih => intro acc; rw [List.foldl_cons, ih, insAt_length, List.length_cons]; omega
  have h := this zs []
  rw [List.length_nil, Nat.zero_add] at h
  exact h
theorem insSort_snoc (zs : List Int) {k : Nat} (h : k < zs.length) : insSort (zs.take (k + 1)) = insAt zs[k] (insSort (zs.take k)) := by
  rw [List.take_add_one, List.getElem?_eq_getElem h]
  rw [insSort, List.foldl_append]; rfl

set_option maxHeartbeats 800000 in
set_option maxRecDepth 100000 in
theorem specSort_any (A : Option Addr) (c : Nat) (zs : List Int) (w : World) (hs : Seen w (· < w.heap.size) (.sl A c 1 (ints zs))) (hn : zs.length ≤ 1048576) :
    Calls Try.prog 8 #[.slice A zs.length c] w fun e w' => ∃ A' c', e = .returned (.slice A' zs.length c') ∧ Below w.heap.size w w' ∧ Owned w' (w.heap.size ≤ ·) (.sl A' c' 1 (ints (insSort zs))) := by
  obtain ⟨i0, hi0, hz0, hz1, hz2⟩ := info_parts Try.infoInt
  go_enter Try.func8, Try.ntmps8
  go_wp2
  go_loopw [3, 4] (fun ov i wr => ∃ (k g c' : Nat), k ≤ zs.length ∧ i = .int .i64 k ∧ ov = .slice (some ⟨g, 0, none⟩) k c' ∧ Below w.heap.size w wr ∧ Owned wr (w.heap.size ≤ ·) (.sl (some ⟨g, 0, none⟩) c' 1 (ints (insSort (zs.take k))))) (fun _ i _ => zs.length - (intOf i).toNat)
  case atStart => exact ⟨0, _, _, Nat.zero_le _, rfl, rfl, (Below.refl _ _).alloc (Nat.le_refl _) _, owned_made _ _ (Nat.le_refl _)⟩
  case round =>
    obtain ⟨k, g, c', hk, rfl, rfl, hb, ho⟩ := hrel
    by_cases hlt : k < zs.length
    · obtain ⟨b, o, rfl, hbB, hcell⟩ := hs.int_at hlt
      have hc1 : wr.cell? ⟨b, o + k, none⟩ = some (.int .i64 (zs[k])) := (hb.cell (p := ⟨b, o + k, none⟩) hbB).trans hcell
      clear hcell
      have hlen : (insSort (zs.take k)).length = k := by rw [insSort_length]; simp; omega
      have hnext := insSort_snoc zs hlt
      generalize hl : insSort (zs.take k) = l at ho hlen hnext
      clear hl
      subst hlen
      have Hnext := Lib.hid hnext
      clear hnext
      have hcap : l.length ≤ c' := by simpa [ints] using ho.seen.1
      go_wp2
      go_loopw [5] (fun a wi => ∃ (at_ n : Nat), at_ ≤ l.length ∧ a = .int .i64 at_ ∧ wi = wr.drewN n ∧ insPos zs[l.length] l l.length = insPos zs[l.length] l at_) (fun a _ => (intOf a).toNat)
      case atStart => exact ⟨l.length, 0, Nat.le_refl _, rfl, rfl, rfl⟩
      case round =>
        obtain ⟨at_, n, hat, rfl, rfl, hrel⟩ := hrel
        have Hrel := Lib.hid hrel
        clear hrel
        by_cases hgt : 0 < at_ ∧ l[at_ - 1]?.getD 0 > zs[l.length]
        · obtain ⟨h0, hgt⟩ := hgt
          obtain ⟨b2, o2, hA2, hb2, hcell2⟩ := ho.seen.int_at (k := at_ - 1) (by omega)
          simp only [Option.some.injEq, Addr.mk.injEq, and_true] at hA2
          obtain ⟨rfl, rfl⟩ := hA2
          rw [Nat.zero_add] at hcell2
          have hx : insPos zs[l.length] l at_ = insPos zs[l.length] l (at_ - 1) := by
            obtain ⟨j, rfl⟩ : ∃ j, at_ = j + 1 := ⟨at_ - 1, by omega⟩
            rw [insPos, if_pos (by simpa using hgt)]; rfl
          have Hx := Lib.hid hx
          clear hx
          rw [List.getElem?_eq_getElem (by omega)] at hgt
          simp only [Option.getD_some] at hgt
          go_wp2
          go_quiet (fail)
          go_wp2
          go_roundw
          case rel => exact ⟨at_ - 1, n + nq, by omega, by rw [show ((at_ : Int) - 1) = ((at_ - 1 : Nat) : Int) by omega], by simp, by rw [Hrel.out, Hx.out]⟩
          case measure => simp [intOf]; omega
        · have hpos : insPos zs[l.length] l at_ = at_ := by
            cases at_ with
            | zero => rfl
            | succ j =>
              rw [insPos, if_neg]
              intro h
              exact hgt ⟨by omega, by simpa using h⟩
          have Hpos : Hid (insPos zs[l.length] l l.length = at_) := Hrel.out.trans hpos
          clear hpos Hrel
          have hgw : g < wr.heap.size := own_lt.1 _ ho.1 g (by simp [PT.blocks, PT.rowOf])
          have hgb : w.heap.size ≤ g := ho.2.2 g (by simp [PT.blocks, PT.rowOf])
          rcases Nat.eq_zero_or_pos at_ with h0 | h0
          all_goals
            first
              | (
                  have _h : at_ = 0 := h0
                  have hd : decide (0 < at_) = false := by simp; omega
                  have H0 := Lib.hid _h
                  clear h0 _h
                  skip
                  clear hgt
                  go_wp2
                  go_quiet (fail)
                  clear hd)
              | (
                  have _h : at_ > 0 := h0
                  obtain ⟨b2, o2, hA2, hb2, hcell2⟩ := ho.seen.int_at (k := at_ - 1) (by omega)
                  simp only [Option.some.injEq, Addr.mk.injEq, and_true] at hA2
                  obtain ⟨rfl, rfl⟩ := hA2
                  rw [Nat.zero_add] at hcell2
                  rw [List.getElem?_eq_getElem (by omega)] at hgt
                  simp only [Option.getD_some] at hgt
                  have hle : l[at_ - 1] ≤ zs[l.length] := by
                    have : ¬ l[at_ - 1] > zs[l.length] := fun h => hgt ⟨h0, h⟩
                    omega
                  clear hgt
                  go_wp2
                  go_quiet (fail)
                  clear hcell2 hb2)
          all_goals
            obtain ⟨A3, hA3⟩ : ∃ A3, (if c' = at_ then some (⟨g, 0, none⟩ : Addr) else some ⟨g, at_, none⟩) = A3 := ⟨_, rfl⟩
            have hsee := ho.seen.cut_ints (k := at_)
            rw [Nat.zero_add, hA3] at hsee
            have hsee2 : ∀ o, Sees ((wr.drewN (n + nq)).alloc o) (w.heap.size ≤ ·) A3 (PT.cellsL (ints (l.drop at_))) := fun o => (hsee.mono (S' := fun b => w.heap.size ≤ b ∧ b < wr.heap.size) (fun b h1 h2 => ⟨h1, h2⟩)).keep (fun b hb => Below.heap_alloc (wr.drewN (n + nq)) o b hb.2) fun b hb _ => hb.1
            go_wp2_with (at_builtin; refine wpList_append_pt _ rfl (.tmp 32) (.tmp 35) _ rfl 3 i0 _ 1 8 Try.underlying24 hi0 hz0 hz1 hz2 rfl (by omega) (S := (wr.heap.size ≤ ·)) (some ⟨wr.heap.size, 0, none⟩) A3 0 (c' - at_) 0 (l.length - at_) [] (ints (l.drop at_)) rfl rfl (owned_made _ _ (Nat.le_refl _)) (hsee2 _) rfl (by simp [ints]) (ints_cells _) (ownL_ints _ _) (by simp [PT.blocks, PT.blocksL, PT.rowOf, blocksL_ints]) (by simp [blocksL_ints]) (by simp) (by simp only [maxLen]; omega) (by omega) ?_; intro A4 c4 w4 ho4 ht4 hA4)
            rw [List.nil_append] at ho4
            have hb4 : Below wr.heap.size wr w4 := ((below_drewN (Below.refl _ _) _).alloc (Nat.le_refl _) _).trans (ht4.below (B := wr.heap.size) (by simp) (fun b hb => by simp [PT.rowOf] at hb; omega))
            have hc4 : w4.cell? ⟨b, o + l.length, none⟩ = some (.int .i64 zs[l.length]) := (hb4.cell (p := ⟨b, o + l.length, none⟩) (World.block_lt_of_cell? wr _ hc1)).trans hc1
            have ho5 := (ho.take_ints hat).below hb4
            have hb5 := hb.trans (hb4.mono hb.size)
            have hcap2 : at_ ≤ c' := by omega
            clear ho hb hc1 hsee2 hsee hA3 ht4 hA4 hb4
            go_region_law (first
              | (refine step_append_pt _ rfl (.tmp 39) (.tmp 44) _ rfl 3 i0 _ 1 8 Try.underlying24 hi0 hz0 hz1 hz2 rfl (by omega) (S := (w.heap.size ≤ ·)) (S2 := fun _ => True) (some ⟨g, 0, none⟩) (some ⟨w4.heap.size, 0, none⟩) c' 1 at_ 1 (ints (l.take at_)) (ints [zs[l.length]]) rfl rfl (ho5.ext (Ext.alloc1 w4 _)) (sees_new w4 _ _) (by simp [ints]; omega) rfl (ints_cells _) (ownL_ints _ _) (by simp [PT.blocks, PT.rowOf, blocksL_ints]) (by simp [blocksL_ints]) (by have := hb5.size; simp; omega) (by simp only [maxLen]; omega) (by omega) ?_; intro A5 c5 w5 ho6 ht6 hA6)
              | (refine step_append_pt _ rfl (.tmp 45) (.tmp 46) _ rfl 3 i0 _ 1 8 Try.underlying24 hi0 hz0 hz1 hz2 rfl (by omega) (S := (w.heap.size ≤ ·)) (S2 := (wr.heap.size ≤ ·)) A5 A4 c5 c4 (at_ + 1) (l.length - at_) (ints (l.take at_) ++ ints [zs[l.length]]) (ints (l.drop at_)) rfl rfl ho6 (Sees.touch (by exact ho4.seen.2.2.1.ext (fun b hb => Below.heap_alloc w4 _ b hb)) ht6 (fun b hb _ h => by simp [PT.rowOf] at h; omega)) (by simp [ints]; omega) (by simp [ints]) (ints_cells _) (ownL_ints _ _) (by cases A5 <;> simp [PT.blocks, PT.rowOf, blocksL_ints, PT.blocksL_append]) (by simp [blocksL_ints]) (by have := hb5.size; have := ht6.size; simp at this; omega) (by simp only [maxLen]; omega) (by omega) ?_; intro A7 c7 w7 ho8 ht8 hA8))
            have hb6 : Below w.heap.size w w5 := (hb5.alloc hb5.size (.cells #[.int .i64 zs[l.length]] 3)).drew.trans (ht6.below (B := w.heap.size) (by have := hb5.size; simp; omega) (fun b hb => by simp [PT.rowOf] at hb; omega))
            obtain ⟨g5, rfl⟩ : ∃ g5, A5 = some ⟨g5, 0, none⟩ := by rcases hA6 with rfl | rfl <;> exact ⟨_, rfl⟩
            have hb8 : Below w.heap.size w w7 := hb6.trans (ht8.below (B := w.heap.size) hb6.size (fun b hb => by
              have := ho6.2.2 g5 (by simp [PT.blocks, PT.rowOf]); simp [PT.rowOf] at hb; omega))
            obtain ⟨g7, rfl⟩ : ∃ g7, A7 = some ⟨g7, 0, none⟩ := by rcases hA8 with rfl | rfl <;> exact ⟨_, rfl⟩
            have hfin : ints (l.take at_) ++ ints [zs[l.length]] ++ ints (l.drop at_) = ints (insSort (zs.take (l.length + 1))) := by
              rw [Hnext.out, insAt, Hpos.out]; simp [ints]
            rw [hfin] at ho8
            have hlen2 : at_ + 1 + (l.length - at_) = l.length + 1 := by omega
            clear hfin
            go_wp2
            go_roundw
            case rel => exact ⟨l.length + 1, g7, c7, by omega, by go_num, rfl, hb8, ho8⟩
            case measure => simp [intOf]; omega
    · go_wp2
      go_ret
      have e : k = zs.length := by omega
      subst e
      rw [List.take_length] at ho
      exact ⟨_, _, rfl, hb, ho⟩
end Go.Proofs.Ytoflhemcjmhmkaa
