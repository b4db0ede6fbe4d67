/- The walk of the law FnExactSortNumbers: for every list of numbers it returns true and changes nothing that was there. -/
import Derived.Test.YtoflhemcjmhmkaaSortLaw
namespace Go.Proofs.Ytoflhemcjmhmkaa
open Go Go.RowKit

set_option maxHeartbeats 400000 in
theorem exactSort_walk (A : Option Addr) (c : Nat) (zs : List Int) (w : World) (hs : Seen w (· < w.heap.size) (.sl A c 1 (ints zs))) (hm : zs.length ≤ 9223372036854775807) :
    Calls Try.prog 4 #[.slice A zs.length c] w fun e w' => e = .returned (.bool true) ∧ Below w.heap.size w w' := by
  by_cases hbig : zs.length ≤ 1048576
  · have hd : decide ((1048576 : Int) < (zs.length : Int)) = false := by simp; omega
    have hL := sorted_length zs
    have hI := insSort_eq zs
    go_enter Try.func4, Try.ntmps4
    go_wp2_with fail
    -- w0 := spec.SortNumbers(toIntS(aList))
    refine (toIntS_any A c zs w hs hbig).mono ?_
    rintro e w1 ⟨rfl, hb1, ho1⟩
    go_wp2_with fail
    refine (specSort_any _ _ zs w1 ho1.seen.here hbig).mono ?_
    rintro e w2 ⟨A2, c2, rfl, hb2, ho2⟩
    go_wp2_with fail
    have hB2 := hb1.trans (hb2.mono hb1.size)
    have hs2 := hs.below hB2
    have o0 := ho2.rng
    rw [hI] at o0
    clear ho1 ho2 hI hs
    -- x0 := toIntS(aList)
    refine (toIntS_any A c zs w2 hs2.here hbig).mono ?_
    rintro e w3 ⟨rfl, hb3, ho3⟩
    have hB3 := hB2.trans (hb3.mono hB2.size)
    have hs3 := hs2.below (hb3.mono hB2.size)
    have o0 := o0.below hb3
    have ox := ho3.rng
    clear hs2
    go_wp2_with fail
    -- g0 := impl.SortNumbers(x0)
    refine (implSort_any _ _ zs w3 _ ho3.seen hbig).mono ?_
    rintro e w4 ⟨A4, c4, rfl, hb4, ho4⟩
    have hB4 := hB3.trans (hb4.mono hB3.size)
    have hs4 := hs3.below (hb4.mono hB3.size)
    have o0 := o0.below hb4
    have ox := ox.below hb4
    have og := ho4.rng
    clear hs3 ho3 ho4
    generalize hY : sorted zs = ys at *
    have HY := Lib.hid hY
    clear hY
    have z1 := hb2.size
    have z2 := hb3.size
    have z3 := hb4.size
    have z0 := hb1.size
    clear hb1 hb2 hb3 hb4 hB2 hB3
    go_wp2_with fail
    refine (eqIntS_any' zs.length A4 A2 c4 c2 ys w4 _ _ og.seen o0.seen hL hbig).mono ?_
    rintro e w5 ⟨rfl, hq⟩
    have hb5 := q_below hq
    have hB5 := hB4.trans (hb5.mono hB4.size)
    have hs5 := hs4.below (hb5.mono hB4.size)
    have o0 := o0.below hb5
    have ox := ox.below hb5
    have og := og.below hb5
    clear hs4 hB4 hb5 hq
    go_wp2_with fail
    refine (toIntS_any A c zs w5 hs5.here hbig).mono ?_
    rintro e w6 ⟨rfl, hb6, ho6⟩
    have hB6 := hB5.trans (hb6.mono hB5.size)
    have hs6 := hs5.below (hb6.mono hB5.size)
    have o0 := o0.below hb6
    have ox := ox.below hb6
    have og := og.below hb6
    clear hs5 hB5 hb6
    go_wp2_with fail
    refine (eqIntS_any' zs.length _ _ _ _ zs w6 _ _ ox.seen ho6.seen rfl hbig).mono ?_
    rintro e w7 ⟨rfl, hq⟩
    have hb7 := q_below hq
    have hB7 := hB6.trans (hb7.mono hB6.size)
    have hs7 := hs6.below (hb7.mono hB6.size)
    have o0 := o0.below hb7
    have ox := ox.below hb7
    have og := og.below hb7
    clear hs6 hB6 hb7 hq ho6
    go_wp2_with fail
    refine (markIntS_any _ _ zs 1 w7 _ ox hbig (by omega)).mono ?_
    rintro e w8 ⟨rfl, ht8, _⟩
    have hB8 := hB7.trans (ht8.below (B := w.heap.size) hB7.size (fun b h => by have := h.1; omega))
    have hs8 := hs7.below (ht8.below (B := w.heap.size) hB7.size (fun b h => by have := h.1; omega))
    have o0 := o0.touch ht8 (fun b h1 _ h2 => by have := h1.2; have := h2.1; omega)
    have og := og.touch ht8 (fun b h1 _ h2 => by have := h1.1; have := h2.2; omega)
    clear hs7 hB7 ht8 ox
    go_wp2_with fail
    refine (eqIntS_any' zs.length A4 A2 c4 c2 ys w8 _ _ og.seen o0.seen hL hbig).mono ?_
    rintro e w9 ⟨rfl, hq⟩
    have hb9 := q_below hq
    have hB9 := hB8.trans (hb9.mono hB8.size)
    have hs9 := hs8.below (hb9.mono hB8.size)
    have o0 := o0.below hb9
    have og := og.below hb9
    clear hs8 hB8 hb9 hq
    go_wp2_with fail
    refine (markIntS_any' zs.length _ _ ys 1 w9 _ og hL hbig (by omega)).mono ?_
    rintro e w10 ⟨rfl, ht10, og⟩
    have hB10 := hB9.trans (ht10.below (B := w.heap.size) hB9.size (fun b h => by have := h.1; omega))
    have hs10 := hs9.below (ht10.below (B := w.heap.size) hB9.size (fun b h => by have := h.1; omega))
    have o0 := o0.touch ht10 (fun b h1 _ h2 => by have := h1.2; have := h2.1; omega)
    clear hs9 hB9 ht10
    go_wp2_with fail
    refine (heldIntS_any _ _ zs.length 1 w10 _ og.seen hbig (by omega)).mono ?_
    rintro e w11 ⟨rfl, rfl⟩
    go_wp2_with fail
    -- h0 := impl.SortNumbers(toIntS(aList))
    refine (toIntS_any A c zs w10 hs10.here hbig).mono ?_
    rintro e w12 ⟨rfl, hb12, ho12⟩
    have hB12 := hB10.trans (hb12.mono hB10.size)
    have o0 := o0.below hb12
    have og := og.below hb12
    clear hs10 hB10 hb12
    go_wp2_with fail
    refine (implSort_any _ _ zs w12 _ ho12.seen hbig).mono ?_
    rintro e w13 ⟨A13, c13, rfl, hb13, ho13⟩
    have hB13 := hB12.trans (hb13.mono hB12.size)
    have o0 := o0.below hb13
    have og := og.below hb13
    rw [HY.out] at ho13
    clear hB12 hb13 ho12
    go_wp2_with fail
    refine (eqIntS_any' zs.length A13 A2 c13 c2 ys w13 _ _ ho13.seen o0.seen hL hbig).mono ?_
    rintro e w14 ⟨rfl, hq⟩
    have hb14 := q_below hq
    have hB14 := hB13.trans (hb14.mono hB13.size)
    have og := og.below hb14
    clear hB13 hb14 hq ho13 o0
    go_wp2_with fail
    refine (heldIntS_any _ _ zs.length 1 w14 _ og.seen hbig (by omega)).mono ?_
    rintro e w15 ⟨rfl, rfl⟩
    go_wp2
    go_ret
    exact ⟨rfl, hB14⟩
  · go_enter Try.func4, Try.ntmps4
    go_wp2
    go_ret
    exact ⟨rfl, Below.refl _ _⟩

end Go.Proofs.Ytoflhemcjmhmkaa
