/- Part 4 of the proof: the texts SelPure, Sel, Sel2, Sel3. -/
import Derived.Test.YtigipcbnfeoliaaGreatDoorFi1
import Derived.Lib.SplitLaws
import Derived.Test.YtigipcbnfeoliaaGreatDoorFi2
import Derived.Deep.RegionLaw
set_option linter.all false
set_option maxHeartbeats 800000
namespace Go.Proofs.YtigipcbnfeoliaaGreatDoor
open Go Go.RowKit
def ab9 : List (List UInt8) := [[99, 108, 97, 115, 115], [101, 120, 116, 101, 110, 100, 115], [102, 105, 101, 108, 100, 115], [109, 101, 116, 104, 111, 100], [99, 108, 97, 115, 115, 109, 101, 116, 104, 111, 100], [101, 110, 100], [109, 97, 105, 110]]
def ops : List (List UInt8) := [[47, 47], [92, 92], [60, 61], [62, 61], [61, 61], [126, 61], [126, 126], [43], [45], [42], [60], [62], [61], [44], [38]]
def ik (l : List UInt8) : Bool := ab9.contains l
def lG (l : List UInt8) : Bool := ops.contains l
def cq (l : List UInt8) : Bool := bO l && !ik l
def spl (c : UInt8) : List UInt8 -> List (List UInt8)
 | [] => [[]]
 | b :: r => if b = c then [] :: spl c r else (b :: (spl c r).headD []) :: (spl c r).tail
def kwL (l : List UInt8) : Option (List (List UInt8)) :=
 if l.getLast? = some 58 then (if (spl 58 l.dropLast).all bO && decide ((spl 58 l.dropLast).length <= 4) then some (spl 58 l.dropLast) else none) else none
def cy (l : List UInt8) : Bool := lG l || cq l || (kwL l).isSome
def bW (l : List UInt8) : Int := if lG l then 1 else if cq l then 0 else match kwL l with | some ps => ps.length | none => -1
theorem qx (c : UInt8) (l : List UInt8) : spl c l ≠ [] := by
 cases l with
 | nil => simp [spl]
 | cons b r => simp only [spl]; split <;> simp
theorem oP (c : UInt8) (l : List UInt8) : 0 < (spl c l).length := List.length_pos_iff.2 (qx c l)
theorem nE (c : UInt8) : ∀ l : List UInt8, spl c (l ++ [c]) = spl c l ++ [[]]
 | [] => by simp [spl]
 | b :: r => by
   have h := nE c r
   simp only [List.cons_append, spl]
   split
   ·rw [h]; rfl
   ·rw [h]
    obtain ⟨x, xs, hx⟩ := List.exists_cons_of_ne_nil (qx c r)
    rw [hx]; rfl
theorem sE (c : UInt8) : ∀ l : List UInt8, (spl c l).getLast? = some [] -> l = [] \/ l.getLast? = some c
 | [], _ => .inl rfl
 | b :: r, h => by
   simp only [spl] at h
   refine .inr ?_
   obtain ⟨x, xs, hx⟩ := List.exists_cons_of_ne_nil (qx c r)
   split at h
   ·rename_i hb
    subst hb
    rw [hx, List.getLast?_cons_cons, <- hx] at h
    rcases sE b r h with h1 | h1
    ·subst h1; rfl
    ·cases r with
     | nil => simp at h1
     | cons a t => rw [List.getLast?_cons_cons]; exact h1
   ·rw [hx] at h
    cases xs with
    | nil => simp at h
    | cons y ys =>
      simp only [List.headD_cons, List.tail_cons, List.getLast?_cons_cons] at h
      have h2 : (spl c r).getLast? = some [] := by rw [hx, List.getLast?_cons_cons]; exact h
      rcases sE c r h2 with h1 | h1
      ·subst h1; simp [spl] at hx
      ·cases r with
       | nil => simp at h1
       | cons a t => rw [List.getLast?_cons_cons]; exact h1
theorem aag (c : UInt8) : ∀ l : List UInt8, c ∉ l -> spl c l = [l]
 | [], _ => rfl
 | b :: r, h => by
   simp only [List.mem_cons, not_or] at h
   rw [spl, if_neg (fun e => h.1 e.symm), aag c r h.2]; rfl
theorem vD (c : UInt8) : ∀ l : List UInt8, (spl c l).length = 1 -> spl c l = [l]
 | [], _ => rfl
 | b :: r, h => by
   have hp := oP c r
   simp only [spl] at h |-
   split
   ·rename_i hb; rw [if_pos hb] at h; simp only [List.length_cons] at h; omega
   ·rename_i hb
    rw [if_neg hb] at h
    simp only [List.length_cons, List.length_tail] at h
    rw [vD c r (by omega)]; rfl
theorem lp (c : UInt8) : ∀ (l p : List UInt8), p ∈ spl c l -> p.length <= l.length
 | [], p, h => by simp [spl] at h; subst h; simp
 | b :: r, p, h => by
   simp only [spl] at h
   obtain ⟨x, xs, hx⟩ := List.exists_cons_of_ne_nil (qx c r)
   split at h
   ·rcases List.mem_cons.1 h with rfl | h
    ·simp
    ·have := lp c r p h; simp only [List.length_cons]; omega
   ·rw [hx] at h
    simp only [List.headD_cons, List.tail_cons] at h
    rcases List.mem_cons.1 h with rfl | h
    ·have := lp c r x (by rw [hx]; simp); simp only [List.length_cons]; omega
    ·have := lp c r p (by rw [hx]; simp [h]); simp only [List.length_cons]; omega
theorem lX (c : UInt8) : ∀ l : List UInt8, (spl c l).length <= l.length + 1
 | [] => by simp [spl]
 | b :: r => by
   have := lX c r
   have hp := oP c r
   simp only [spl]
   split
   ·simp only [List.length_cons]; omega
   ·simp only [List.length_cons, List.length_tail]; omega
def ada (pre : List UInt8) (ps : List (List UInt8)) : List (List UInt8) := (pre ++ ps.headD []) :: ps.tail
theorem wR (c : UInt8) (l : List UInt8) : ada [] (spl c l) = spl c l := by
 obtain ⟨x, xs, hx⟩ := List.exists_cons_of_ne_nil (qx c l)
 rw [hx]; rfl
theorem acj (c : UInt8) (pre r : List UInt8) : ada pre (spl c (c :: r)) = pre :: spl c r := by simp [spl, ada]
theorem abz (b c : UInt8) (pre r : List UInt8) (h : b ≠ c) : ada pre (spl c (b :: r)) = ada (pre ++ [b]) (spl c r) := by simp [spl, ada, h]
theorem sG (c : UInt8) (r : List UInt8) : Lib.index (c :: r) [c] = 0 := by
 simp [Lib.index]
theorem rm (b c : UInt8) (r : List UInt8) (h : b ≠ c) : Lib.index (b :: r) [c] = if Lib.index r [c] = -1 then -1 else Lib.index r [c] + 1 := by
 simp [Lib.index, Ne.symm h]
theorem t7 (c : UInt8) : ∀ (l : List UInt8), Lib.splitK [c] 0 (l.count c) l = spl c l
 | [] => rfl
 | b :: r => by
   have ih := t7 c r
   by_cases hb : b = c
   ·subst hb
    rw [List.count_cons_self, Lib.splitK, sG, if_neg (by decide)]
    simp only [spl, if_true]
    simpa using ih
   ·rw [List.count_cons_of_ne hb, spl, if_neg hb, <- ih]
    generalize hk : r.count c = k
    cases k with
    | zero => rfl
    | succ k =>
      have hge := Lib.index_ge r [c]
      have hin : Lib.index r [c] ≠ -1 := by
        intro h0
        have := Lib.count_one c r
        rw [Lib.count_miss h0, hk] at this
        omega
      rw [Lib.splitK, Lib.splitK, rm b c r hb, if_neg hin]
      have e1 : (Lib.index r [c] + 1 == -1) = false := by rw [beq_eq_false_iff_ne]; omega
      have e2 : (Lib.index r [c] == -1) = false := by rw [beq_eq_false_iff_ne]; exact hin
      rw [e1, e2]
      obtain ⟨i, hi⟩ := Int.eq_ofNat_of_zero_le (show 0 <= Lib.index r [c] by omega)
      rw [hi]
      have e3 : ((i : Int) + 1).toNat = i + 1 := by omega
      simp [e3]
def kb (l : List UInt8) : Bool :=
 if lG l then true else
 if 1 < (spl 58 l).length then (if (spl 58 l).getLast? = some [] then (spl 58 l).dropLast.all bO && decide ((spl 58 l).length - 1 <= 4) else false)
 else bO l && !ik l
theorem aa9 : lod 58 = false := by decide
theorem lz (l : List UInt8) (h : bO l = true) : (58 : UInt8) ∉ l := by
 intro hm
 cases l with
 | nil => simp at hm
 | cons b r =>
   simp only [bO, Bool.and_eq_true, List.all_eq_true] at h
   rcases List.mem_cons.1 hm with e | e
   ·subst e
    have : fu 58 = true := h.1.2
    exact absurd this (by decide)
   ·have := h.2 58 e
    rw [aa9] at this
    cases this
theorem lY (l : List UInt8) : kb l = cy l := by
 unfold kb cy
 by_cases ho : lG l = true
 ·rw [if_pos ho, ho]; rfl
 ·rw [if_neg ho, Bool.eq_false_iff.2 ho, Bool.false_or]
  by_cases hn : 1 < (spl 58 l).length
  ·rw [if_pos hn]
   have hno : cq l = false := by
     rw [Bool.eq_false_iff]
     intro h
     simp only [cq, Bool.and_eq_true] at h
     have := aag 58 l (lz l h.1)
     rw [this] at hn
     simp at hn
   rw [hno, Bool.false_or]
   by_cases hl : l.getLast? = some 58
   ·obtain ⟨m, rfl⟩ := List.getLast?_eq_some_iff.1 hl
    simp only [nE, List.getLast?_append, List.getLast?_singleton, Option.some_or, if_true, List.dropLast_concat, List.length_append, List.length_singleton, Nat.add_sub_cancel]
    simp only [kwL, List.getLast?_append, List.getLast?_singleton, Option.some_or, if_true, List.dropLast_concat]
    split
    ·rename_i h; rw [h]; rfl
    ·rename_i h; rw [Bool.eq_false_iff.2 h]; rfl
   ·have h2 : ¬ (spl 58 l).getLast? = some [] := by
      intro h
      rcases sE 58 l h with h1 | h1
      ·subst h1; simp [spl] at hn
      ·exact hl h1
    rw [if_neg h2]
    simp [kwL, hl]
  ·rw [if_neg hn]
   have hone := vD 58 l (by have := oP 58 l; omega)
   have hk : kwL l = none := by
     unfold kwL
     by_cases hl : l.getLast? = some 58
     ·obtain ⟨m, rfl⟩ := List.getLast?_eq_some_iff.1 hl
      rw [nE] at hn
      have := oP 58 m
      simp at hn
      exact absurd hn (qx 58 m)
     ·rw [if_neg hl]
   rw [hk]
   simp [cq]
def ks (l : List UInt8) : Int := if kb l then (if lG l then 1 else ((spl 58 l).length : Int) - 1) else -1
theorem wn (l : List UInt8) : ks l = bW l := by
 unfold ks bW
 rw [lY]
 by_cases ho : lG l = true
 ·simp [cy, ho]
 ·rw [Bool.eq_false_iff.2 ho]
  by_cases hn : cq l = true
  ·have := aag 58 l (lz l (by simp only [cq, Bool.and_eq_true] at hn; exact hn.1))
   simp [cy, hn, this]
  ·rw [Bool.eq_false_iff.2 hn]
   cases hk : kwL l with
   | none => simp [cy, Bool.eq_false_iff.2 ho, Bool.eq_false_iff.2 hn, hk]
   | some ps =>
     simp only [cy, Bool.eq_false_iff.2 ho, Bool.eq_false_iff.2 hn, hk, Option.isSome_some, Bool.or_true, if_true, Bool.false_eq_true, if_false]
     unfold kwL at hk
     by_cases hl : l.getLast? = some 58
     ·obtain ⟨m, rfl⟩ := List.getLast?_eq_some_iff.1 hl
      rw [if_pos hl, List.dropLast_concat] at hk
      split at hk
      ·simp only [Option.some.injEq] at hk
       subst hk
       rw [nE]; simp
      ·cases hk
     ·rw [if_neg hl] at hk; cases hk
def ex (w : World) : Prop := ∃ m : Int, w.cell? ⟨0, 0, none⟩ = some (.int .i64 m)
theorem ex.below {w w' : World} (h : ex w) (hb : Below w.heap.size w w') : ex w' := by
 obtain ⟨m, hm⟩ := h
 exact ⟨m, (hb.cell (World.block_lt_of_cell? w _ hm)).trans hm⟩
theorem Tryz.infoStr : (Tryz.prog.info? 9).map (fun i => (i.zero, i.size, i.bytes)) = some (some (.string ByteArray.empty), 1, 16) := by kernel_rfl
def lW (l : List ByteArray) : List PT := l.map PT.str
theorem vN (l : List ByteArray) : (lW l).length = l.length := by simp [lW]
theorem wb (a b : List ByteArray) : lW (a ++ b) = lW a ++ lW b := by simp [lW]
theorem jV (l : List ByteArray) : PT.cellsL (lW l) = l.map Value.string := by
 induction l with
 | nil => rfl
 | cons z r ih => simp only [lW, List.map_cons, PT.cellsL, PT.cells] at *; rw [ih]; rfl
theorem mC (l : List ByteArray) : PT.blocksL (lW l) = [] := by
 induction l with
 | nil => rfl
 | cons z r ih => simp only [lW, List.map_cons, PT.blocksL, PT.blocks] at *; rw [ih]; rfl
theorem yZ (l : List ByteArray) : ∀ t ∈ lW l, t.cells.length = 1 := fun t ht => by
 simp only [lW, List.mem_map] at ht; obtain ⟨z, _, rfl⟩ := ht; rfl
theorem aa5 (w : World) (l : List ByteArray) : iK w (lW l) := iK.of_get fun t ht => by
 simp only [lW, List.mem_map] at ht; obtain ⟨z, _, rfl⟩ := ht; trivial
theorem d9.str_at {w : World} {S : Nat -> Prop} {A : Option Addr} {c : Nat} {l : List ByteArray} (h : d9 w S (.sl A c 1 (lW l))) {k : Nat} (hk : k < l.length) :
   ∃ b o, A = some ⟨b, o, none⟩ /\ S b /\ w.cell? ⟨b, o + k, none⟩ = some (.string (l[k]'hk)) := by
 have h1 := h.2.2.1
 rw [jV] at h1
 exact h1 k _ (by simp [hk])
theorem fB {w : World} {S : Nat -> Prop} (l : List ByteArray) (e : TypeId) (hl : l.length <= maxLen) (hS : S w.heap.size) : cf (w.alloc (.cells (l.map Value.string).toArray e)) S (.sl (some ⟨w.heap.size, 0, none⟩) l.length 1 (lW l)) :=
 ⟨ef (yZ l) (by rw [jV]; simp [lW]) (heap_alloc_new w _) (by simp [lW]) hl (by simp) (by rw [jV]; simp [lW, List.take_of_length_le]) (aa5 _ _), by simp [PT.blocks, mC, PT.rowOf],
   by simpa [PT.blocks, mC, PT.rowOf] using hS⟩
def fl : List ByteArray := ab9.map fun l => ⟨l.toArray⟩
def qy : List ByteArray := ops.map fun l => ⟨l.toArray⟩
def j0 (l : List ByteArray) (s : ByteArray) : Bool := l.any fun x => x.toList == s.toList
theorem lI (s : ByteArray) : j0 fl s = ik s.data.toList := by
 rw [Bool.eq_iff_iff]
 simp only [j0, fl, ik, List.any_map, List.any_eq_true, Function.comp, List.contains_iff_mem, beq_iff_eq, Lib.toList_data]
 exact ⟨fun ⟨x, h1, h2⟩ => by rw [<- h2]; exact h1, fun h => ⟨_, h, rfl⟩⟩
theorem sF (s : ByteArray) : j0 qy s = lG s.data.toList := by
 rw [Bool.eq_iff_iff]
 simp only [j0, qy, lG, List.any_map, List.any_eq_true, Function.comp, List.contains_iff_mem, beq_iff_eq, Lib.toList_data]
 exact ⟨fun ⟨x, h1, h2⟩ => by rw [<- h2]; exact h1, fun h => ⟨_, h, rfl⟩⟩
theorem zu (s : ByteArray) (w : World) : Calls Tryz.prog 308 #[.string s] w fun e w' => e = .returned (.bool (ik s.data.toList)) /\ w = w' := by
 have hL := Lib.toList_data s
 have hd : ik s.data.toList = j0 fl s := (lI s).symm
 have Hd := Lib.hid hd
 have HL := Lib.hid hL
 clear hd hL
 go_enter Tryz.func308, Tryz.ntmps308
 go_wp2
 all_goals (go_ret; exact ⟨aN (by have := HL.out; simp_all [ik, ab9]), rfl⟩)
theorem ky (A : Option Addr) (c : Nat) (l : List ByteArray) (s : ByteArray) (w : World) (S : Nat -> Prop) (hs : d9 w S (.sl A c 1 (lW l))) (hn : l.length <= 1048576) :
   Calls Tryz.prog 234 #[.slice A l.length c, .string s] w fun e w' => e = .returned (.bool (j0 l s)) /\ ∃ n, w' = w.drewN n := by
 go_enter Tryz.func234, Tryz.ntmps234
 go_wp2
 go_loopw [5] (fun i wr => ∃ k n : Nat, k <= l.length /\ i = .int .i64 k /\ wr = w.drewN n /\ j0 l s = j0 (l.drop k) s) (fun i _ => l.length - (intOf i).toNat)
 case atStart => exact ⟨0, 0, Nat.zero_le _, rfl, rfl, rfl⟩
 case round =>
   obtain ⟨k, n, hk, rfl, rfl, hr⟩ := hrel
   have Hr := Lib.hid hr
   clear hr
   by_cases hlt : k < l.length
   ·obtain ⟨b, o, rfl, _, hcell⟩ := hs.str_at hlt
    have hd : j0 (l.drop k) s = (l[k].toList == s.toList || j0 (l.drop (k + 1)) s) := by rw [List.drop_eq_getElem_cons hlt]; rfl
    have Hd := Lib.hid hd
    clear hd hs
    cases hq : l[k].toList == s.toList
    all_goals
      go_wp2
      first
        | (
            go_roundw
            case rel => exact ⟨k + 1, n, by omega, by go_num, rfl, by rw [Hr.out, Hd.out, hq]; rfl⟩
            case measure => simp [intOf]; omega)
        | (
            go_ret
            exact ⟨aN (by rw [Hr.out, Hd.out, hq]; rfl), n, rfl⟩)
   ·go_wp2
    go_ret
    exact ⟨aN (by rw [Hr.out, List.drop_eq_nil_of_le (by omega)]; rfl), n, rfl⟩
theorem vQ (w : World) : Calls Tryz.prog 256 #[] w fun e w' => e = .returned (.slice (some ⟨w.heap.size, 0, none⟩) 7 7) /\ w.alloc (.cells (fl.map Value.string).toArray 9) = w' := by
 go_enter Tryz.func256, Tryz.ntmps256
 go_wp2
 go_ret
 exact ⟨rfl, rfl⟩
theorem gx (w : World) : Calls Tryz.prog 253 #[] w fun e w' => e = .returned (.slice (some ⟨w.heap.size, 0, none⟩) 15 15) /\ w.alloc (.cells (qy.map Value.string).toArray 9) = w' := by
 go_enter Tryz.func253, Tryz.ntmps253
 go_wp2
 go_ret
 exact ⟨rfl, rfl⟩
theorem sB (w : World) : Calls Tryz.prog 311 #[] w fun e w' => e = .returned (.slice (some ⟨w.heap.size, 0, none⟩) 15 15) /\ w.alloc (.cells (qy.map Value.string).toArray 9) = w' := by
 go_enter Tryz.func311, Tryz.ntmps311
 go_wp2
 go_ret
 exact ⟨rfl, rfl⟩
def em (s : ByteArray) (l : List ByteArray) : ByteArray := (l.find? fun x => Lib.hasPrefix s.data.toList x.data.toList).getD ByteArray.empty
theorem vX (A : Option Addr) (c : Nat) (l : List ByteArray) (s : ByteArray) (w : World) (S : Nat -> Prop) (hs : d9 w S (.sl A c 1 (lW l))) (hn : l.length <= 1048576) :
   Calls Tryz.prog 310 #[.string s, .slice A l.length c] w fun e w' => e = .returned (.string (em s l)) /\ ∃ n, w' = w.drewN n := by
 go_enter Tryz.func310, Tryz.ntmps310
 go_wp2
 go_loopw [9] (fun i wr => ∃ k n : Nat, k <= l.length /\ i = .int .i64 k /\ wr = w.drewN n /\ em s l = em s (l.drop k)) (fun i _ => l.length - (intOf i).toNat)
 case atStart => exact ⟨0, 0, Nat.zero_le _, rfl, rfl, rfl⟩
 case round =>
   obtain ⟨k, n, hk, rfl, rfl, hr⟩ := hrel
   have Hr := Lib.hid hr
   clear hr
   by_cases hlt : k < l.length
   ·obtain ⟨b, o, rfl, _, hcell⟩ := hs.str_at hlt
    have hd : em s (l.drop k) = if Lib.hasPrefix s.data.toList l[k].data.toList then l[k] else em s (l.drop (k + 1)) := by
      rw [List.drop_eq_getElem_cons hlt]
      simp only [em, List.find?_cons]
      split <;> simp_all
    have Hd := Lib.hid hd
    clear hd hs
    cases hq : Lib.hasPrefix s.data.toList l[k].data.toList
    all_goals
      go_wp2_with (go_at_call 332; refine (Tryz.strings_HasPrefix _ _ _).mono ?_; rintro e w' ⟨rfl, rfl⟩)
      first
        | (
            go_roundw
            case rel => exact ⟨k + 1, n, by omega, by go_num, rfl, by rw [Hr.out, Hd.out, hq]; rfl⟩
            case measure => simp [intOf]; omega)
        | (
            go_ret
            exact ⟨co (by rw [Hr.out, Hd.out, hq]; rfl), n, rfl⟩)
   ·go_wp2
    go_ret
    exact ⟨co (by rw [Hr.out, List.drop_eq_nil_of_le (by omega)]; rfl), n, rfl⟩
theorem tX (s : ByteArray) (l : List ByteArray) (h : em s l = s) (hs : s.data.toList ≠ []) : s ∈ l := by
 unfold em at h
 cases hf : l.find? (fun x => Lib.hasPrefix s.data.toList x.data.toList) with
 | none => rw [hf] at h; simp only [Option.getD_none] at h; rw [<- h] at hs; exact absurd rfl hs
 | some x => rw [hf] at h; simp only [Option.getD_some] at h; subst h; exact List.mem_of_find?_eq_some hf
theorem ta : ∀ l ∈ qy, ((em l qy).toList == l.toList) = true /\ l.toList ≠ [] := by decide +kernel
theorem adI (s : ByteArray) : (!s.toList.isEmpty && (em s qy).toList == s.toList) = lG s.data.toList := by
 rw [<- sF, Bool.eq_iff_iff]
 constructor
 ·intro h
  simp only [Bool.and_eq_true, Bool.not_eq_true', beq_iff_eq] at h
  have h1 : em s qy = s := gS (by rw [<- Lib.toList_data, <- Lib.toList_data]; exact h.2)
  have h2 : s ∈ qy := tX s qy h1 (by intro e; rw [<- Lib.toList_data] at e; rw [e] at h; simp at h)
  simp only [j0, List.any_eq_true]
  exact ⟨s, h2, by simp⟩
 ·intro h
  simp only [j0, List.any_eq_true] at h
  obtain ⟨x, hx, he⟩ := h
  have e : x = s := gS (by rw [<- Lib.toList_data, <- Lib.toList_data]; exact beq_iff_eq.1 he)
  subst e
  obtain ⟨h1, h2⟩ := ta x hx
  rw [h1]
  cases hx : x.toList with
  | nil => exact absurd hx h2
  | cons => rfl
theorem ci (s : ByteArray) (w : World) : Calls Tryz.prog 265 #[.string s] w fun e w' => e = .returned (.bool (lG s.data.toList)) /\ Below w.heap.size w w' := by
 have Hq := Lib.hid (adI s)
 cases hn : s.toList.isEmpty
 all_goals
   go_enter Tryz.func265, Tryz.ntmps265
   go_wp2_with (first
     | (go_at_call 311; refine (sB _).mono ?_; rintro e w' ⟨rfl, rfl⟩)
     | (go_at_call 310; refine (vX _ 15 qy s _ (fun _ => True) (fB qy _ (by decide) trivial).seen (by decide)).mono ?_; rintro e w' ⟨rfl, n, rfl⟩))
   go_ret
   first
     | exact ⟨aN (by rw [<- Hq.out, hn]; rfl), Below.refl _ _⟩
     | exact ⟨aN (by rw [<- Hq.out, hn]; rfl), aU ((Below.refl _ _).alloc (Nat.le_refl _) _) _⟩
theorem eR (s : ByteArray) (w : World) (hs : s.size <= 1048576) : Calls Tryz.prog 263 #[.string s] w fun e w' => e = .returned (.bool (cq s.data.toList)) /\ ∃ n, w' = w.drewN n := by
 cases hp : bO s.data.toList
 all_goals
   go_enter Tryz.func263, Tryz.ntmps263
   go_wp2_with (first
     | (go_at_call 307; refine (lT s _ hs).mono ?_; rintro e w' ⟨rfl, n, rfl⟩)
     | (go_at_call 308; refine (zu s _).mono ?_; rintro e w' ⟨rfl, rfl⟩))
   go_ret
   exact ⟨aN (by rw [cq, hp]; simp), n, rfl⟩
theorem fg (s : ByteArray) (w : World) (hs : s.size <= 1048576) : Calls Tryz.prog 255 #[.string s] w fun e w' => e = .returned (.bool (bO s.data.toList)) /\ ∃ n, w' = w.drewN n := by
 by_cases h1 : 1 <= (s.size : Int)
 ·have h0 : 0 < s.size := by omega
  have Hf := Lib.hid (jl s h0)
  have Hr := Lib.hid (lM s.data.toList)
  have hr : eF s.data.toList <= s.size := by have := nI s.data.toList; rw [aO] at this; exact this
  by_cases h2 : (s.size : Int) <= 20
  all_goals cases hl : fu s[0]
  all_goals
    go_enter Tryz.func255, Tryz.ntmps255
    go_wp2_with (first
      | (go_at_call 301; refine (mU s[0] _).mono ?_; rintro e w' ⟨rfl, rfl⟩)
      | (go_at_call 302; refine (aaw s 0 _ hs (by omega)).mono ?_; rintro e w' ⟨rfl, n, rfl⟩))
    go_ret
    first
      | exact ⟨aN (by rw [Hf.out, hl, decide_eq_false (by omega)]; rfl), 0, rfl⟩
      | exact ⟨aN (by rw [Hf.out, hl]; simp), 0, rfl⟩
      | (
          refine ⟨aN ?_, n, rfl⟩
          rw [Hf.out, hl, decide_eq_true (show s.size <= 20 by omega)]
          have hx := Hr.out
          rw [aO] at hx
          rw [Bool.eq_iff_iff]
          simp only [Bool.true_and, <- hx]
          simp
          try omega)
 ·go_enter Tryz.func255, Tryz.ntmps255
  go_wp2
  go_ret
  exact ⟨aN (o6 s (by omega)).symm, 0, rfl⟩
theorem gJ {ops : Array Oper} {rest : List Oper} {o : Oper} {a : Act} {Q : Exit -> Act -> World -> Prop} {w : World} (hgd : o.guard = none) (s x : Operand)
   (ho : o.op = .call { callee := .builtin .append, args := #[s, x], argTypes := #[28, 28] }) {S : Nat -> Prop} (A : Option Addr) (c n : Nat) (l : List ByteArray) (v : ByteArray)
   (hs : a.eval s = .slice A n c) (hx : a.eval x = .slice (some ⟨w.heap.size, 0, none⟩) 1 1) (hown : cf w S (.sl A c 1 (lW l))) (hn : n = l.length) (hS : S (w.heap.size + 1)) (hl : n <= 1000000000)
   (h : ∀ A' c' w', cf w' S (.sl A' c' 1 (lW (l ++ [v]))) -> dB (· ∈ PT.rowOf A) w w' -> (∀ g, A = some ⟨g, 0, none⟩ -> ∃ g', A' = some ⟨g', 0, none⟩) -> wpList Tryz.prog ops Q rest (a.put o.dst (.slice A' (n + 1) c')) w') :
   wpList Tryz.prog ops Q (o :: rest) a (w.alloc (.cells #[.string v] 9)) :=
 lJ hgd s x 28 9 (.string ByteArray.empty) 1 16 ho Tryz.underlying28 Tryz.infoStr rfl (by omega) A c n (lW l) (.str v) hs hx hown (by rw [vN]; exact hn) rfl trivial rfl hS hl (by omega)
   fun A' c' w' h1 h2 h3 => h A' c' w' (by rw [wb]; exact h1) h2 h3
theorem kA (s : ByteArray) (b : UInt8) (w : World) (hs : s.size <= 1048576) : Calls Tryz.prog 254 #[.string s, .int .u8 (b.toNat : Int)] w fun e w' => ∃ (ps : List ByteArray) (g c : Nat), ps.map (·.data.toList) = spl b s.data.toList /\ e = .returned (.slice (some ⟨g, 0, none⟩) ps.length c) /\ Below w.heap.size w w' /\ cf w' (w.heap.size <= ·) (.sl (some ⟨g, 0, none⟩) c 1 (lW ps)) := by
 go_enter Tryz.func254, Tryz.ntmps254
 go_wp2
 go_loopw [5, 6, 7] (fun ov fv iv wr => ∃ (k f m g c : Nat) (ps : List ByteArray), k <= s.size + 1 /\ iv = .int .i64 k /\ fv = .int .i64 f /\ f <= k /\ m <= k /\ ps.length = m /\ ov = .slice (some ⟨g, 0, none⟩) m c /\ Below w.heap.size w wr /\ cf wr (w.heap.size <= ·) (.sl (some ⟨g, 0, none⟩) c 1 (lW ps)) /\
   (if k <= s.size then ps.map (·.data.toList) ++ ada ((s.data.toList.take k).drop f) (spl b (s.data.toList.drop k)) else ps.map (·.data.toList)) = spl b s.data.toList) (fun _ _ iv _ => s.size + 1 - (intOf iv).toNat)
 case atStart => exact ⟨0, 0, 0, _, _, [], Nat.zero_le _, rfl, rfl, Nat.le_refl _, Nat.le_refl _, rfl, rfl, (Below.refl _ _).alloc (Nat.le_refl _) _, qm _ _ (Nat.le_refl _), by simp [wR]⟩
 case round =>
   obtain ⟨k, f, m, g, c, ps, hk, rfl, rfl, hf, hm, hl, rfl, hb, ho, hr⟩ := hrel
   have Hr := Lib.hid hr
   have Hl := Lib.hid hl
   clear hr hl
   have hg : w.heap.size <= g := ho.2.2 g (by simp [PT.blocks, PT.rowOf])
   have hsz := hb.size
   by_cases hlt : k <= s.size
   ·by_cases hend : k = s.size
    ·have he : ((k : Int) == (s.size : Int)) = true := by simp [hend]
     have Hend := Lib.hid hend
     clear hend
     go_wp2_with (at_builtin; refine gJ rfl (.tmp 26) (.tmp 31) rfl (S := (w.heap.size <= ·)) (some ⟨g, 0, none⟩) c m ps (s.extract f k) rfl rfl ho Hl.out.symm (by omega) (by omega) ?_; intro A5 c5 w5 ho5 ht5 hA5)
     obtain ⟨g5, rfl⟩ := hA5 g rfl
     have hb5 := hb.trans (ht5.below (B := w.heap.size) hb.size (fun b h => by simp [PT.rowOf] at h; omega))
     clear ho hb ht5
     go_roundw
     case rel =>
       refine ⟨k + 1, k + 1, m + 1, g5, c5, ps ++ [s.extract f k], by omega, by go_num, by go_num, Nat.le_refl _, by omega, by simp [Hl.out], rfl, hb5, ho5, ?_⟩
       have h1 := Hr.out
       have h2 := Hend.out
       rw [if_pos hlt] at h1
       have h5 : s.data.toList.drop s.size = [] := List.drop_eq_nil_of_le (by rw [aO]; omega)
       rw [if_neg (by omega), <- h1, h2, h5]
       simp only [spl, ada, List.headD_cons, List.append_nil, List.tail_cons, List.map_append, List.map_cons, List.map_nil]
       rw [Lib.extract_data, <- List.drop_take]
     case measure => simp [intOf]; omega
    ·have he : ((k : Int) == (s.size : Int)) = false := by simp; omega
     have hks : k < s.size := by omega
     have hdr := k8 s hks
     have Hdr := Lib.hid hdr
     clear hdr
     cases hq : ((s[k].toNat : Int) == (b.toNat : Int))
     ·go_wp2
      go_roundw
      case rel =>
        refine ⟨k + 1, f, m, g, c, ps, by omega, by go_num, rfl, by omega, by omega, Hl.out, rfl, hb, ho, ?_⟩
        have h1 := Hr.out
        rw [if_pos hlt, Hdr.out, abz _ _ _ _ (fun e => by simp [e] at hq)] at h1
        rw [if_pos (by omega), <- h1]
        have h3 : (s.data.toList.take (k + 1)).drop f = (s.data.toList.take k).drop f ++ [s[k]] := by
          rw [List.take_add_one, List.getElem?_eq_getElem (by rw [aO]; exact hks), List.drop_append_of_le_length (by rw [List.length_take, aO]; omega)]
          rfl
        rw [h3]
      case measure => simp [intOf]; omega
     ·go_wp2_with (at_builtin; refine gJ rfl (.tmp 26) (.tmp 31) rfl (S := (w.heap.size <= ·)) (some ⟨g, 0, none⟩) c m ps (s.extract f k) rfl rfl ho Hl.out.symm (by omega) (by omega) ?_; intro A5 c5 w5 ho5 ht5 hA5)
      obtain ⟨g5, rfl⟩ := hA5 g rfl
      have hb5 := hb.trans (ht5.below (B := w.heap.size) hb.size (fun b h => by simp [PT.rowOf] at h; omega))
      clear ho hb ht5
      go_roundw
      case rel =>
        refine ⟨k + 1, k + 1, m + 1, g5, c5, ps ++ [s.extract f k], by omega, by go_num, by go_num, Nat.le_refl _, by omega, by simp [Hl.out], rfl, hb5, ho5, ?_⟩
        have h1 := Hr.out
        have hbb : s[k] = b := by
          have : (s[k].toNat : Int) = (b.toNat : Int) := beq_iff_eq.1 hq
          exact UInt8.toNat_inj.1 (by omega)
        rw [if_pos hlt, Hdr.out, hbb, acj] at h1
        have h4 : ((s.data.toList.take (k + 1)).drop (k + 1)) = [] := List.drop_eq_nil_of_le (by rw [List.length_take]; omega)
        rw [if_pos (by omega), h4, wR, <- h1]
        simp only [List.map_append, List.map_cons, List.map_nil, List.append_assoc, List.singleton_append]
        rw [Lib.extract_data, <- List.drop_take]
      case measure => simp [intOf]; omega
   ·go_wp2
    go_ret
    refine ⟨ps, g, c, ?_, by rw [Hl.out]; rfl, hb, ho⟩
    have := Hr.out
    rw [if_neg hlt] at this
    exact this
def adC (l : List UInt8) (w w' : World) (e : Ending) : Prop :=
 Below w.heap.size w w' /\ match kwL l with
   | some ps => ∃ b o c, e = .returned (.slice (some ⟨b, o, none⟩) ps.length c)
   | none => e = .returned (.slice none 0 0)
theorem um (s : ByteArray) : Lib.hasSuffix s.data.toList [58] = decide (s.data.toList.getLast? = some 58) := by
 rw [Bool.eq_iff_iff, decide_eq_true_iff]
 simp only [Lib.hasSuffix, List.isSuffixOf_iff_suffix, List.getLast?_eq_some_iff]
 exact ⟨fun ⟨t, h⟩ => ⟨t, h.symm⟩, fun ⟨t, h⟩ => ⟨t, h.symm⟩⟩
theorem nH (s : ByteArray) (w : World) (hs : s.size <= 1048576) (hm : ex w) : Calls Tryz.prog 266 #[.string s] w fun e w' => adC s.data.toList w w' e := by
 have hsuf := um s
 cases hc : Lib.hasSuffix s.data.toList [58]
 ·have hk : kwL s.data.toList = none := by
    rw [hsuf, decide_eq_false_iff_not] at hc
    unfold kwL; rw [if_neg hc]
  clear hsuf
  have Hk := Lib.hid hk
  clear hk
  go_enter Tryz.func266, Tryz.ntmps266
  go_wp2_with (go_at_call 312; refine (Tryz.strings_HasSuffix _ _ _ (by omega)).mono ?_; rintro e w' ⟨rfl, hw⟩; obtain rfl := hw.symm)
  go_ret
  exact ⟨Below.refl _ _, by rw [Hk.out]; rfl⟩
 ·have hl : s.data.toList.getLast? = some 58 := by rw [hsuf, decide_eq_true_iff] at hc; exact hc
  have hpos : 0 < s.size := by
    rw [<- aO]
    cases hx : s.data.toList with
    | nil => rw [hx] at hl; cases hl
    | cons => simp
  have Hl := Lib.hid hl
  clear hsuf hl
  have hsz1 : (1 : Int) <= s.size := by omega
  have hst : (s.extract 0 (s.size - 1)).data.toList = s.data.toList.dropLast := by
    rw [mM, List.dropLast_eq_take, aO]
  have hs1 : (s.extract 0 (s.size - 1)).size <= 1048576 := by rw [ByteArray.size_extract]; omega
  obtain ⟨mm, hmm⟩ := hm
  have hspl : (Lib.splitB ⟨#[58]⟩ 0 (Lib.countB (s.extract 0 (s.size - 1)) ⟨#[58]⟩) (s.extract 0 (s.size - 1))).map (·.data.toList) = spl 58 s.data.toList.dropLast := by
    rw [Lib.splitB_data, hst]
    have h1 : Lib.countB (s.extract 0 (s.size - 1)) ⟨#[58]⟩ = s.data.toList.dropLast.count 58 := by
      rw [<- hst]; exact Lib.count_one 58 _
    rw [h1]
    exact t7 58 _
  have Hst := Lib.hid hst
  have Hspl := Lib.hid hspl
  clear hst hspl
  have hlen : Lib.countB (s.extract 0 (s.size - 1)) ⟨#[58]⟩ + 1 = (Lib.splitB ⟨#[58]⟩ 0 (Lib.countB (s.extract 0 (s.size - 1)) ⟨#[58]⟩) (s.extract 0 (s.size - 1))).length := (Lib.splitB_all ⟨#[58]⟩ (by decide) 0 _ _ rfl).symm
  have hcle := Lib.countB_le ⟨#[58]⟩ (by decide) (s.extract 0 (s.size - 1)).size _ (Nat.le_refl _)
  have hpl : (Lib.splitB ⟨#[58]⟩ 0 (Lib.countB (s.extract 0 (s.size - 1)) ⟨#[58]⟩) (s.extract 0 (s.size - 1))).length <= 1048576 := by
    rw [<- hlen]; rw [ByteArray.size_extract] at hcle; omega
  have hpsz : ∀ p ∈ (Lib.splitB ⟨#[58]⟩ 0 (Lib.countB (s.extract 0 (s.size - 1)) ⟨#[58]⟩) (s.extract 0 (s.size - 1))), p.size <= 1048576 := by
    intro p hp
    have h1 : p.data.toList ∈ spl 58 s.data.toList.dropLast := by rw [<- Hspl.out]; exact List.mem_map_of_mem (f := (·.data.toList)) hp
    have h2 := lp 58 _ _ h1
    rw [aO, List.length_dropLast, aO] at h2
    omega
  generalize hps : Lib.splitB ⟨#[58]⟩ 0 (Lib.countB (s.extract 0 (s.size - 1)) ⟨#[58]⟩) (s.extract 0 (s.size - 1)) = ps at Hspl
  go_enter Tryz.func266, Tryz.ntmps266
  go_wp2_with (go_at_call 312; refine (Tryz.strings_HasSuffix _ _ _ (by omega)).mono ?_; rintro e w' ⟨rfl, hw⟩; obtain rfl := hw.symm)
  refine (Tryz.strings_Split (s.extract 0 (s.size - 1)) ⟨#[58]⟩ mm _ (by omega) hmm (by decide)).mono ?_
  rintro e w' ⟨rfl, rfl⟩
  rw [hps]
  rw [hps] at hlen hpl hpsz
  rw [hlen]
  have hP := Lib.hid hpsz
  clear hps hlen hpsz hcle
  have hown := fB (w := w) (S := (w.heap.size <= ·)) ps 9 (by simp only [maxLen]; omega) (Nat.le_refl _)
  have hb1 : Below w.heap.size w (w.alloc (.cells (ps.map Value.string).toArray 9)) := (Below.refl _ _).alloc (Nat.le_refl _) _
  generalize w.alloc (.cells (ps.map Value.string).toArray 9) = w1 at hown hb1
  have hsee := hown.seen
  clear hmm hown
  go_wp2_with fail
  have hkw : kwL s.data.toList = if (ps.all fun p => bO p.data.toList) && decide (ps.length <= 4) then some (spl 58 s.data.toList.dropLast) else none := by
    unfold kwL
    rw [if_pos Hl.out, <- Hspl.out, List.length_map, List.all_map]; rfl
  have hpl2 : (spl 58 s.data.toList.dropLast).length = ps.length := by rw [<- Hspl.out, List.length_map]
  have Hkw := Lib.hid hkw
  have Hpl2 := Lib.hid hpl2
  clear hkw hpl2 hc hpos hsz1 hs1
  go_loopw [17] (fun i wr => ∃ k n : Nat, k <= ps.length /\ i = .int .i64 k /\ wr = w1.drewN n /\ (ps.all fun p => bO p.data.toList) = (ps.drop k).all fun p => bO p.data.toList) (fun i _ => ps.length - (intOf i).toNat)
  case atStart => exact ⟨0, 0, Nat.zero_le _, rfl, rfl, rfl⟩
  case round =>
    obtain ⟨k, n, hk, rfl, rfl, hr⟩ := hrel
    have Hr := Lib.hid hr
    clear hr
    by_cases hlt : k < ps.length
    ·obtain ⟨b, o, hA, _, hcell⟩ := hsee.str_at hlt
     simp only [Option.some.injEq, Addr.mk.injEq, and_true] at hA
     obtain ⟨rfl, rfl⟩ := hA
     rw [Nat.zero_add] at hcell
     have hsp := hP.out ps[k] (List.getElem_mem hlt)
     have hdr := List.drop_eq_getElem_cons hlt
     have Hdr := Lib.hid hdr
     clear hdr
     cases hq : bO ps[k].data.toList
     ·go_wp2_with (go_at_call 307; refine (lT ps[k] _ hsp).mono ?_; rintro e w' ⟨rfl, m, rfl⟩)
      go_ret
      refine ⟨aU hb1 _, ?_⟩
      rw [Hkw.out, Hr.out, Hdr.out, List.all_cons, hq]
      rfl
     ·go_wp2_with (go_at_call 307; refine (lT ps[k] _ hsp).mono ?_; rintro e w' ⟨rfl, m, rfl⟩)
      go_roundw
      case rel => exact ⟨k + 1, _, by omega, by go_num, rfl, by rw [Hr.out, Hdr.out, List.all_cons, hq]; rfl⟩
      case measure => simp [intOf]; omega
    ·have hall : (ps.all fun p => bO p.data.toList) = true := by rw [Hr.out, List.drop_eq_nil_of_le (by omega)]; rfl
     have Hall := Lib.hid hall
     clear hall
     by_cases h4 : (ps.length : Int) <= 4
     ·go_wp2
      go_ret
      refine ⟨aU hb1 _, ?_⟩
      rw [Hkw.out, Hall.out, decide_eq_true (by omega)]
      exact ⟨_, _, _, by rw [Hpl2.out]; rfl⟩
     ·go_wp2
      go_ret
      refine ⟨aU hb1 _, ?_⟩
      rw [Hkw.out, Hall.out, decide_eq_false (by omega)]
      rfl
theorem mA (s : ByteArray) (w : World) (hs : s.size <= 1048576) (hm : ex w) (hk : kwL s.data.toList = none) : Calls Tryz.prog 266 #[.string s] w fun e w' => e = .returned (.slice none 0 0) /\ Below w.heap.size w w' :=
 (nH s w hs hm).mono fun e w' ⟨hb, h⟩ => by rw [hk] at h; exact ⟨h, hb⟩
theorem jd (s : ByteArray) (w : World) (hs : s.size <= 1048576) (hm : ex w) (ps : List (List UInt8)) (hk : kwL s.data.toList = some ps) : Calls Tryz.prog 266 #[.string s] w fun e w' => ∃ b o c, e = .returned (.slice (some ⟨b, o, none⟩) ps.length c) /\ Below w.heap.size w w' :=
 (nH s w hs hm).mono fun e w' ⟨hb, h⟩ => by rw [hk] at h; obtain ⟨b, o, c, h⟩ := h; exact ⟨b, o, c, h, hb⟩
theorem jL (s : ByteArray) (w : World) (hs : s.size <= 1048576) (hm : ex w) : Calls Tryz.prog 218 #[.string s] w fun e w' => e = .returned (.bool (cy s.data.toList)) /\ Below w.heap.size w w' := by
 cases ho : lG s.data.toList
 ·cases hn : cq s.data.toList
  ·cases hk : kwL s.data.toList with
   | none =>
     have Hk := Lib.hid hk
     clear hk
     go_enter Tryz.func218, Tryz.ntmps218
     go_wp2_with (first
       | (go_at_call 265; refine (ci s _).mono ?_; rintro e w1 ⟨rfl, hb1⟩)
       | (go_at_call 263; refine (eR s _ hs).mono ?_; rintro e w2 ⟨rfl, n2, rfl⟩)
       | (go_at_call 266; refine (mA s _ hs (ex.below (w := w1) (hm.below hb1) (aU (Below.refl _ _) _)) Hk.out).mono ?_; rintro e w3 ⟨rfl, hb3⟩))
     go_ret
     exact ⟨aN (by rw [cy, ho, hn, Hk.out]; rfl), (aU hb1 _).trans (hb3.mono hb1.size)⟩
   | some ps =>
     have Hk := Lib.hid hk
     clear hk
     go_enter Tryz.func218, Tryz.ntmps218
     go_wp2_with (first
       | (go_at_call 265; refine (ci s _).mono ?_; rintro e w1 ⟨rfl, hb1⟩)
       | (go_at_call 263; refine (eR s _ hs).mono ?_; rintro e w2 ⟨rfl, n2, rfl⟩)
       | (go_at_call 266; refine (jd s _ hs (ex.below (w := w1) (hm.below hb1) (aU (Below.refl _ _) _)) ps Hk.out).mono ?_; rintro e w3 ⟨b, o, c, rfl, hb3⟩))
     go_ret
     exact ⟨aN (by rw [cy, ho, hn, Hk.out]; rfl), (aU hb1 _).trans (hb3.mono hb1.size)⟩
  ·go_enter Tryz.func218, Tryz.ntmps218
   go_wp2_with (first
     | (go_at_call 265; refine (ci s _).mono ?_; rintro e w1 ⟨rfl, hb1⟩)
     | (go_at_call 263; refine (eR s _ hs).mono ?_; rintro e w2 ⟨rfl, n2, rfl⟩))
   go_ret
   exact ⟨aN (by rw [cy, ho, hn]; rfl), aU hb1 _⟩
 ·go_enter Tryz.func218, Tryz.ntmps218
  go_wp2_with (go_at_call 265; refine (ci s _).mono ?_; rintro e w1 ⟨rfl, hb1⟩)
  go_ret
  exact ⟨aN (by rw [cy, ho]; rfl), hb1⟩
theorem rP (s : ByteArray) (w : World) (hs : s.size <= 1048576) (hm : ex w) : Calls Tryz.prog 219 #[.string s] w fun e w' => e = .returned (.int .i64 (bW s.data.toList)) /\ Below w.heap.size w w' := by
 cases ho : lG s.data.toList
 ·cases hn : cq s.data.toList
  ·cases hk : kwL s.data.toList with
   | none =>
     have Hk := Lib.hid hk
     clear hk
     go_enter Tryz.func219, Tryz.ntmps219
     go_wp2_with (first
       | (go_at_call 265; refine (ci s _).mono ?_; rintro e w1 ⟨rfl, hb1⟩)
       | (go_at_call 263; refine (eR s _ hs).mono ?_; rintro e w2 ⟨rfl, n2, rfl⟩)
       | (go_at_call 266; refine (mA s _ hs (ex.below (w := w1) (hm.below hb1) (aU (Below.refl _ _) _)) Hk.out).mono ?_; rintro e w3 ⟨rfl, hb3⟩))
     go_ret
     exact ⟨ir (by rw [bW, ho, hn, Hk.out]; rfl), (aU hb1 _).trans (hb3.mono hb1.size)⟩
   | some ps =>
     have Hk := Lib.hid hk
     clear hk
     go_enter Tryz.func219, Tryz.ntmps219
     go_wp2_with fail
     refine (ci s _).mono ?_
     rintro e w1 ⟨rfl, hb1⟩
     go_wp2_with fail
     refine (eR s _ hs).mono ?_
     rintro e w2 ⟨rfl, n2, rfl⟩
     have hm2 : ex (w1.drewN n2) := ex.below (w := w1) (hm.below hb1) (aU (Below.refl _ _) _)
     go_wp2_with fail
     refine (jd s _ hs hm2 ps Hk.out).mono ?_
     rintro e w3 ⟨b, o, c, rfl, hb3⟩
     have hm3 := hm2.below hb3
     go_wp2_with fail
     refine (jd s _ hs hm3 ps Hk.out).mono ?_
     rintro e w4 ⟨b4, o4, c4, rfl, hb4⟩
     go_wp2_with fail
     go_ret
     exact ⟨ir (by rw [bW, ho, hn, Hk.out]; rfl), ((aU hb1 _).trans (hb3.mono hb1.size)).trans (hb4.mono (Nat.le_trans hb1.size hb3.size))⟩
  ·go_enter Tryz.func219, Tryz.ntmps219
   go_wp2_with (first
     | (go_at_call 265; refine (ci s _).mono ?_; rintro e w1 ⟨rfl, hb1⟩)
     | (go_at_call 263; refine (eR s _ hs).mono ?_; rintro e w2 ⟨rfl, n2, rfl⟩))
   go_ret
   exact ⟨ir (by rw [bW, ho, hn]; rfl), aU hb1 _⟩
 ·go_enter Tryz.func219, Tryz.ntmps219
  go_wp2_with (go_at_call 265; refine (ci s _).mono ?_; rintro e w1 ⟨rfl, hb1⟩)
  go_ret
  exact ⟨ir (by rw [bW, ho]; rfl), hb1⟩
theorem dk (s : ByteArray) (w : World) (hs : s.size <= 1048576) : Calls Tryz.prog 193 #[.string s] w fun e w' => e = .returned (.bool (cy s.data.toList)) /\ Below w.heap.size w w' := by
 have Hsel := Lib.hid (lY s.data.toList)
 have Hops := Lib.hid (sF s)
 have Hwords := Lib.hid (lI s)
 go_enter Tryz.func193, Tryz.ntmps193
 cases ho : j0 qy s
 ·go_wp2_with fail
  refine (gx _).mono ?_
  rintro e w1 ⟨rfl, rfl⟩
  go_wp2_with fail
  refine (ky _ 15 qy s _ (fun _ => True) (fB qy _ (by decide) trivial).seen (by decide)).mono ?_
  rintro e w1 ⟨rfl, hq⟩
  have hb1 : Below w.heap.size w w1 := by
    obtain ⟨n, rfl⟩ := hq
    exact aU ((Below.refl _ _).alloc (Nat.le_refl _) _) _
  clear hq
  go_wp2_with fail
  refine (kA s 58 w1 hs).mono ?_
  rintro e w2 ⟨ps, g, c, hps, rfl, hb2, how⟩
  have hB := hb1.trans (hb2.mono hb1.size)
  have hsee := how.seen
  have hlen : ps.length = (spl 58 s.data.toList).length := by rw [<- hps, List.length_map]
  have hpos := oP 58 s.data.toList
  rw [<- hlen] at hpos
  have Hps := Lib.hid hps
  have Hlen := Lib.hid hlen
  clear hps hlen how hb1 hb2
  have hle : ps.length <= 1048577 := by
    have := lX 58 s.data.toList
    rw [aO] at this
    have := Hlen.out
    omega
  have hcap : ps.length <= c := by simpa [lW] using hsee.1
  have hP : Hid (∀ p ∈ ps, p.size <= 1048576) := fun p hp => by
    have h1 : p.data.toList ∈ spl 58 s.data.toList := by rw [<- Hps.out]; exact List.mem_map_of_mem (f := (·.data.toList)) hp
    have h2 := lp 58 _ _ h1
    rw [aO, aO] at h2
    omega
  have hspec : kb s.data.toList = if 1 < ps.length then (if (ps.getLast?.map (·.data.toList)) = some [] then ps.dropLast.all (fun p => bO p.data.toList) && decide (ps.length - 1 <= 4) else false) else bO s.data.toList && !ik s.data.toList := by
    unfold kb
    rw [<- Hops.out, ho, <- Hlen.out, <- Hps.out, List.getLast?_map, <- List.map_dropLast, List.all_map]
    rfl
  have Hspec := Lib.hid hspec
  clear hspec
  by_cases h1 : (1 : Int) < ps.length
  ·obtain ⟨b, o, hA, _, hcell⟩ := hsee.str_at (k := ps.length - 1) (by omega)
   simp only [Option.some.injEq, Addr.mk.injEq, and_true] at hA
   obtain ⟨rfl, rfl⟩ := hA
   rw [Nat.zero_add] at hcell
   cases he : (ps[ps.length - 1]).toList.isEmpty
   ·have hlast : ¬ (ps.getLast?.map (·.data.toList)) = some [] := by
      rw [List.getLast?_eq_getElem?, List.getElem?_eq_getElem (by omega), Option.map_some, <- Lib.toList_data]
      intro h
      simp only [Option.some.injEq] at h
      rw [h] at he
      cases he
    have Hlast := Lib.hid hlast
    clear hlast
    go_wp2
    go_ret
    exact ⟨aN (by rw [<- Hsel.out, Hspec.out, if_pos (by omega), if_neg Hlast.out]), hB⟩
   ·have hlast : (ps.getLast?.map (·.data.toList)) = some [] := by
      rw [List.getLast?_eq_getElem?, List.getElem?_eq_getElem (by omega), Option.map_some, <- Lib.toList_data]
      rw [List.isEmpty_iff.1 he]
    have Hlast := Lib.hid hlast
    have hfin : kb s.data.toList = (ps.dropLast.all (fun p => bO p.data.toList) && decide (ps.length - 1 <= 4)) := by
      rw [Hspec.out, if_pos (by omega), if_pos hlast]
    have Hfin := Lib.hid hfin
    clear hlast hfin
    have h2 : (1 : Int) <= ps.length := by omega
    have h3 : (ps.length : Int) - 1 <= c := by omega
    have hn1 : ((ps.length : Int) == 1) = false := by simp; omega
    go_wp2_with fail
    go_loopw [5] (fun i wr => ∃ k n : Nat, k <= ps.length - 1 /\ i = .int .i64 k /\ wr = w2.drewN n /\ (ps.dropLast.all fun p => bO p.data.toList) = (ps.dropLast.drop k).all fun p => bO p.data.toList) (fun i _ => ps.length - (intOf i).toNat)
    case atStart => exact ⟨0, 0, Nat.zero_le _, rfl, rfl, rfl⟩
    case round =>
      obtain ⟨k, n, hk, rfl, rfl, hr⟩ := hrel
      have Hr := Lib.hid hr
      clear hr
      by_cases hlt : k < ps.length - 1
      ·obtain ⟨b, o, hA, _, hcellk⟩ := hsee.str_at (k := k) (by omega)
       simp only [Option.some.injEq, Addr.mk.injEq, and_true] at hA
       obtain ⟨rfl, rfl⟩ := hA
       rw [Nat.zero_add] at hcellk
       have hsp := hP.out ps[k] (List.getElem_mem (by omega))
       have hdr : ps.dropLast.drop k = ps[k] :: ps.dropLast.drop (k + 1) := by
         rw [List.drop_eq_getElem_cons (by simp; omega), List.getElem_dropLast]
       have Hdr := Lib.hid hdr
       clear hdr
       cases hq : bO ps[k].data.toList
       ·go_wp2_with (go_at_call 255; refine (fg ps[k] _ hsp).mono ?_; rintro e w' ⟨rfl, m, rfl⟩)
        go_ret
        exact ⟨aN (by rw [<- Hsel.out, Hfin.out, Hr.out, Hdr.out, List.all_cons, hq]; rfl), aU hB _⟩
       ·go_wp2_with (go_at_call 255; refine (fg ps[k] _ hsp).mono ?_; rintro e w' ⟨rfl, m, rfl⟩)
        go_roundw
        case rel => exact ⟨k + 1, _, by omega, by go_num, rfl, by rw [Hr.out, Hdr.out, List.all_cons, hq]; rfl⟩
        case measure => simp [intOf]; omega
      ·have hall : (ps.dropLast.all fun p => bO p.data.toList) = true := by rw [Hr.out, List.drop_eq_nil_of_le (by simp; omega)]; rfl
       have Hall := Lib.hid hall
       clear hall
       go_wp2
       go_ret
       exact ⟨aN (by rw [<- Hsel.out, Hfin.out, Hall.out, Bool.true_and, decide_eq_decide]; omega), aU hB _⟩
  ·have hone : ps.length = 1 := by omega
   obtain ⟨p, rfl⟩ := List.length_eq_one_iff.1 hone
   have hp : p = s := by
     have h2 := Hps.out
     have h3 := vD 58 s.data.toList (by rw [<- Hlen.out]; rfl)
     rw [h3] at h2
     simp only [List.map_cons, List.map_nil, List.cons.injEq, and_true] at h2
     exact gS h2
   subst hp
   have hfin : kb p.data.toList = (bO p.data.toList && !ik p.data.toList) := by rw [Hspec.out, if_neg (by simp)]
   have Hfin := Lib.hid hfin
   obtain ⟨b, o, hA, _, hcell⟩ := hsee.str_at (k := 0) (by simp)
   simp only [Option.some.injEq, Addr.mk.injEq, and_true, List.getElem_cons_zero] at hA hcell
   obtain ⟨rfl, rfl⟩ := hA
   rw [Nat.zero_add] at hcell
   clear hfin hone h1 hpos hle
   go_wp2_with fail
   go_loopw [5] (fun i wr => ∃ k : Nat, k <= 1 /\ i = .int .i64 k /\ Below w.heap.size w wr /\ wr.cell? ⟨g, 0, none⟩ = some (.string p) /\ (k = 0 \/ cq p.data.toList = true)) (fun i _ => 1 - (intOf i).toNat)
   case atStart => exact ⟨0, by omega, rfl, hB, hcell, .inl rfl⟩
   case round =>
     obtain ⟨k, hk, rfl, hbr, hc, hr⟩ := hrel
     by_cases hlt : k < 1
     ·obtain rfl : k = 0 := by omega
      have hgr : g < wr.heap.size := World.block_lt_of_cell? wr _ hc
      clear hr
      cases hq : bO p.data.toList
      ·go_wp2_with (go_at_call 255; refine (fg p _ hs).mono ?_; rintro e w' ⟨rfl, m, rfl⟩)
       go_ret
       exact ⟨aN (by rw [<- Hsel.out, Hfin.out, hq]; rfl), aU hbr _⟩
      ·go_wp2_with fail
       refine (fg p _ hs).mono ?_
       rintro e w3 ⟨rfl, hq3⟩
       have hb3 := vI hq3
       have hbr3 := hbr.trans (hb3.mono hbr.size)
       have hc3 := (hb3.cell (p := ⟨g, 0, none⟩) hgr).trans hc
       clear hq3 hb3 hc
       go_wp2_with fail
       refine (vQ _).mono ?_
       rintro e w4 ⟨rfl, rfl⟩
       go_wp2_with fail
       refine (ky _ 7 fl p _ (fun _ => True) (fB fl _ (by decide) trivial).seen (by decide)).mono ?_
       rintro e w5 ⟨rfl, n5, rfl⟩
       have hb5 : Below w.heap.size w ((w3.alloc (.cells (fl.map Value.string).toArray 9)).drewN n5) := aU (hbr3.alloc hbr3.size _) _
       have hc5 : ((w3.alloc (.cells (fl.map Value.string).toArray 9)).drewN n5).cell? ⟨g, 0, none⟩ = some (.string p) := by
         show (w3.alloc _).cell? _ = _
         rw [World.cell?_alloc_lt w3 _ _ (World.block_lt_of_cell? w3 _ hc3)]; exact hc3
       generalize (w3.alloc (.cells (fl.map Value.string).toArray 9)).drewN n5 = w6 at hb5 hc5
       cases hw : j0 fl p
       ·go_wp2_with fail
        go_roundw
        case rel => exact ⟨1, by omega, rfl, hb5, hc5, .inr (by rw [cq, hq, <- Hwords.out, hw]; rfl)⟩
        case measure => simp [intOf]
       ·go_wp2_with fail
        go_ret
        exact ⟨aN (by rw [<- Hsel.out, Hfin.out, hq, <- Hwords.out, hw]; rfl), hb5⟩
     ·obtain rfl : k = 1 := by omega
      have hn : cq p.data.toList = true := by
        rcases hr with h | h
        ·cases h
        ·exact h
      have Hn := Lib.hid hn
      clear hr hn
      go_wp2_with fail
      go_ret
      exact ⟨aN (by rw [<- Hsel.out, Hfin.out]; exact Hn.out.symm), hbr⟩
 ·go_wp2_with fail
  refine (gx _).mono ?_
  rintro e w1 ⟨rfl, rfl⟩
  go_wp2_with fail
  refine (ky _ 15 qy s _ (fun _ => True) (fB qy _ (by decide) trivial).seen (by decide)).mono ?_
  rintro e w1 ⟨rfl, hq⟩
  have hb1 : Below w.heap.size w w1 := by
    obtain ⟨n, rfl⟩ := hq
    exact aU ((Below.refl _ _).alloc (Nat.le_refl _) _) _
  go_wp2
  go_ret
  exact ⟨aN (by rw [cy, <- Hops.out, ho]; rfl), hb1⟩
theorem lR (s : ByteArray) (w : World) (hs : s.size <= 1048576) : Calls Tryz.prog 249 #[.string s] w fun e w' => e = .returned (.int .i64 (bW s.data.toList)) /\ Below w.heap.size w w' := by
 have Hargs := Lib.hid (wn s.data.toList)
 have Hsel := Lib.hid (lY s.data.toList)
 have Hops := Lib.hid (sF s)
 cases hq : cy s.data.toList
 ·go_enter Tryz.func249, Tryz.ntmps249
  go_wp2_with fail
  refine (dk s w hs).mono ?_
  rintro e w1 ⟨rfl, hb1⟩
  go_wp2_with fail
  go_ret
  exact ⟨ir (by rw [<- Hargs.out, ks, Hsel.out, hq]; rfl), hb1⟩
 ·cases ho : j0 qy s
  all_goals
    go_enter Tryz.func249, Tryz.ntmps249
    go_wp2_with fail
    refine (dk s w hs).mono ?_
    rintro e w1 ⟨rfl, hb1⟩
    go_wp2_with fail
    refine (gx _).mono ?_
    rintro e w2 ⟨rfl, rfl⟩
    go_wp2_with fail
    refine (ky _ 15 qy s _ (fun _ => True) (fB qy _ (by decide) trivial).seen (by decide)).mono ?_
    rintro e w3 ⟨rfl, hq3⟩
    have hb3 : Below w.heap.size w w3 := by
      obtain ⟨n, rfl⟩ := hq3
      exact aU (hb1.alloc hb1.size _) _
    go_wp2_with fail
  ·refine (kA s 58 w3 hs).mono ?_
   rintro e w4 ⟨ps, g, c, hps, rfl, hb4, how⟩
   have hlen : ps.length = (spl 58 s.data.toList).length := by rw [<- hps, List.length_map]
   have hl2 := lX 58 s.data.toList
   rw [aO, <- hlen] at hl2
   have Hlen := Lib.hid hlen
   have hps' := Lib.hid hps
   clear hlen hps
   go_wp2_with fail
   go_ret
   exact ⟨ir (by rw [<- Hargs.out, ks, Hsel.out, hq, <- Hops.out, ho, <- Hlen.out]; rfl), hb3.trans (hb4.mono hb3.size)⟩
  ·go_ret
   exact ⟨ir (by rw [<- Hargs.out, ks, Hsel.out, hq, <- Hops.out, ho]; rfl), hb3⟩
end Go.Proofs.YtigipcbnfeoliaaGreatDoor
