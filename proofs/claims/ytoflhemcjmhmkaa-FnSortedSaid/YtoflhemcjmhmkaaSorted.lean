/- The walk of the law FnSorted: for every list of bytes it returns true and changes nothing that was there. -/
import Derived.Test.YtoflhemcjmhmkaaSortLaw
import Derived.Test.YtoflhemcjmhmkaaDraw
namespace Go.Proofs.Ytoflhemcjmhmkaa
open Go Go.RowKit

def cnt (v : Int) (zs : List Int) : Nat := zs.countP fun z => z == v
theorem cnt_snoc (v : Int) (zs : List Int) {k : Nat} (h : k < zs.length) : cnt v (zs.take (k + 1)) = cnt v (zs.take k) + if zs[k] = v then 1 else 0 := by
  rw [cnt, List.take_add_one, List.getElem?_eq_getElem h, List.countP_append]
  simp [cnt]
theorem cnt_le (v : Int) (zs : List Int) : cnt v zs ≤ zs.length := List.countP_le_length
theorem cnt_sorted (v : Int) (zs : List Int) : cnt v (sorted zs) = cnt v zs := (sorted_perm zs).countP_eq _

set_option maxHeartbeats 1000000 in
theorem fnSorted_walk (A : Option Addr) (c : Nat) (bs : List UInt8) (w : World) (hs : Seen w (· < w.heap.size) (.sl A c 1 (bytes bs))) (hm : bs.length ≤ 9223372036854775807) :
    Calls Try.prog 3 #[.slice A bs.length c] w fun e w' => e = .returned (.bool true) ∧ Below w.heap.size w w' := by
  by_cases hbig : bs.length ≤ 1048576
  · have hd : decide ((1048576 : Int) < (bs.length : Int)) = false := by simp; omega
    go_enter Try.func3, Try.ntmps3
    go_wp2_with (go_at_call 5; go_in)
    refine (draw_any A c bs w hs hbig).mono ?_
    rintro e w1 ⟨A1, c1, zs, hz, rfl, hb1, ho1⟩
    go_wp2_with fail
    refine (implSort_any A1 c1 zs w1 _ ho1.seen (by omega)).mono ?_
    rintro e w2 ⟨A2, c2, rfl, hb2, ho2⟩
    have hs1 := ho1.seen.ext (Ext.of_below hb2)
    have hs2 := ho2.seen
    have hb := hb1.trans (hb2.mono hb1.size)
    clear ho1 ho2 hb1 hb2 hs
    have hperm : ∀ v, cnt v (sorted zs) = cnt v zs := fun v => cnt_sorted v zs
    have hpair := sorted_pair zs
    have hlen := sorted_length zs
    have hlt := cnt_le
    generalize sorted zs = ys at hs2 hperm hpair hlen
    have Hp := Lib.hid hperm
    have Hq := Lib.hid hpair
    clear hperm hpair
    go_wp2_with fail
    clear hd
    go_loopw [5] (fun i wr => ∃ k n : Nat, k ≤ zs.length ∧ i = .int .i64 k ∧ wr = w2.drewN n) (fun i _ => zs.length - (intOf i).toNat)
    case atStart => exact ⟨0, 0, Nat.zero_le _, rfl, rfl⟩
    case round =>
      obtain ⟨k, n, hk, rfl, rfl⟩ := hrel
      by_cases hlk : k < zs.length
      · obtain ⟨b2, o2, rfl, _, hcell⟩ := hs2.int_at (k := k) (by omega)
        rcases Nat.eq_zero_or_pos k with h0 | h0
        all_goals
          first
            | (
                have _h : k = 0 := h0
                have hd : decide (0 < k) = false := by simp; omega
                have H0 := Lib.hid _h
                clear h0 _h
                go_wp2
                go_quiet (fail)
                clear hd)
            | (
                have _h : k > 0 := h0
                obtain ⟨b3, o3, hA3, _, hcell3⟩ := hs2.int_at (k := k - 1) (by omega)
                simp only [Option.some.injEq, Addr.mk.injEq, and_true] at hA3
                obtain ⟨rfl, rfl⟩ := hA3
                have hle : ys[k - 1] ≤ ys[k] := List.pairwise_iff_getElem.1 Hq.out (k - 1) k (by omega) (by omega) (by omega)
                go_wp2
                go_quiet (fail))
          go_wp2
          go_loopw [6, 7, 8] (fun av bv jv wi => ∃ j m : Nat, j ≤ zs.length ∧ jv = .int .i64 j ∧ av = .int .i64 (cnt ys[k] (ys.take j)) ∧ bv = .int .i64 (cnt ys[k] (zs.take j)) ∧ wi = w2.drewN m) (fun _ _ jv _ => zs.length - (intOf jv).toNat)
          case atStart => exact ⟨0, n + nq, Nat.zero_le _, rfl, rfl, rfl, by simp⟩
          case round =>
            obtain ⟨j, m, hj, rfl, rfl, rfl, rfl⟩ := hrel
            by_cases hlj : j < zs.length
            · obtain ⟨b4, o4, hA4, _, hcell4⟩ := hs2.int_at (k := j) (by omega)
              simp only [Option.some.injEq, Addr.mk.injEq, and_true] at hA4
              obtain ⟨rfl, rfl⟩ := hA4
              obtain ⟨b5, o5, rfl, _, hcell5⟩ := hs1.int_at (k := j) hlj
              have q1 := cnt_snoc ys[k] ys (k := j) (by omega)
              have q2 := cnt_snoc ys[k] zs (k := j) hlj
              have l1 := cnt_le ys[k] (ys.take j)
              have l2 := cnt_le ys[k] (zs.take j)
              have l3 : (ys.take j).length ≤ j := List.length_take_le _ _
              have l4 : (zs.take j).length ≤ j := List.length_take_le _ _
              have Q1 := Lib.hid q1
              have Q2 := Lib.hid q2
              clear q1 q2
              generalize cnt ys[k] (ys.take j) = ca at *
              generalize cnt ys[k] (zs.take j) = cb at *
              by_cases e1 : ys[j] = ys[k]
              all_goals by_cases e2 : zs[j] = ys[k]
              all_goals
                have h1 := Lib.hid e1
                have h2 := Lib.hid e2
                first | (have t1 : (ys[j] == ys[k]) = true := beq_iff_eq.2 e1) | (have t1 : (ys[j] == ys[k]) = false := beq_eq_false_iff_ne.2 e1)
                first | (have t2 : (zs[j] == ys[k]) = true := beq_iff_eq.2 e2) | (have t2 : (zs[j] == ys[k]) = false := beq_eq_false_iff_ne.2 e2)
                clear e1 e2
                go_wp2
                go_quiet (fail)
                go_wp2
                go_quiet (fail)
                go_wp2
                go_roundw
                case rel => exact ⟨j + 1, _, by omega, by go_num, by rw [Q1.out]; first | rw [if_pos h1.out]; go_num | rw [if_neg h1.out]; go_num, by rw [Q2.out]; first | rw [if_pos h2.out]; go_num | rw [if_neg h2.out]; go_num, rfl⟩
                case measure => simp [intOf]; omega
            · have hfin : cnt ys[k] (ys.take j) = cnt ys[k] (zs.take j) := by
                rw [List.take_of_length_le (by omega), List.take_of_length_le (by omega)]; exact Hp.out _
              have hq : ((cnt ys[k] (ys.take j) : Int) != (cnt ys[k] (zs.take j) : Int)) = false := by rw [hfin]; simp
              clear hfin
              go_wp2
              go_roundw
              case rel => exact ⟨k + 1, _, by omega, by go_num, rfl⟩
              case measure => simp [intOf]; omega
      · go_wp2
        go_ret
        exact ⟨rfl, below_drewN hb _⟩
  · go_enter Try.func3, Try.ntmps3
    go_wp2
    go_ret
    exact ⟨rfl, Below.refl _ _⟩

end Go.Proofs.Ytoflhemcjmhmkaa
