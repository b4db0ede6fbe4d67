/- Part 4 of the proof: the texts SelPure, Sel, Rep, PrQ, Sel2, Sel3. -/
import Derived.Test.YtofnnnpahglfdaaGreatDoorFo1
import Derived.Lib.SplitLaws
import Derived.Test.YtofnnnpahglfdaaGreatDoorFo2
import Derived.Deep.RegionLaw
import Derived.Laws.CopyOwn
import Derived.IntWalk
import Derived.Deep.RegionHeld3
import Derived.Lib.Replace
set_option linter.all false
set_option maxHeartbeats 1000000
set_option maxRecDepth 100000
namespace Go.Proofs.YtofnnnpahglfdaaGreatDoor
open Go Go.RowKit
def acn : List (List UInt8) := [[99, 108, 97, 115, 115], [101, 120, 116, 101, 110, 100, 115], [102, 105, 101, 108, 100, 115], [109, 101, 116, 104, 111, 100], [99, 108, 97, 115, 115, 109, 101, 116, 104, 111, 100], [101, 110, 100], [109, 97, 105, 110]]
def ops : List (List UInt8) := [[47, 47], [92, 92], [60, 61], [62, 61], [61, 61], [126, 61], [126, 126], [43], [45], [42], [60], [62], [61], [44], [38]]
def gw (l : List UInt8) : Bool := acn.contains l
def ke (l : List UInt8) : Bool := ops.contains l
def bT (l : List UInt8) : Bool := bG l && !gw l
def spl (c : UInt8) : List UInt8 -> List (List UInt8)
 | [] => [[]]
 | b :: r => if b = c then [] :: spl c r else (b :: (spl c r).headD []) :: (spl c r).tail
def kwL (l : List UInt8) : Option (List (List UInt8)) :=
 if l.getLast? = some 58 then (if (spl 58 l.dropLast).all bG && decide ((spl 58 l.dropLast).length <= 4) then some (spl 58 l.dropLast) else none) else none
def bY (l : List UInt8) : Bool := ke l || bT l || (kwL l).isSome
def bQ (l : List UInt8) : Int := if ke l then 1 else if bT l then 0 else match kwL l with | some ps => ps.length | none => -1
theorem qp (c : UInt8) (l : List UInt8) : spl c l ≠ [] := by
 cases l with
 | nil => simp [spl]
 | cons b r => simp only [spl]; split <;> simp
theorem nV (c : UInt8) (l : List UInt8) : 0 < (spl c l).length := List.length_pos_iff.2 (qp c l)
theorem mM (c : UInt8) : ∀ l : List UInt8, spl c (l ++ [c]) = spl c l ++ [[]]
 | [] => by simp [spl]
 | b :: r => by
   have h := mM c r
   simp only [List.cons_append, spl]
   split
   ·rw [h]; rfl
   ·rw [h]
    obtain ⟨x, xs, hx⟩ := List.exists_cons_of_ne_nil (qp c r)
    rw [hx]; rfl
theorem qX (c : UInt8) : ∀ l : List UInt8, (spl c l).getLast? = some [] -> l = [] \/ l.getLast? = some c
 | [], _ => .inl rfl
 | b :: r, h => by
   simp only [spl] at h
   refine .inr ?_
   obtain ⟨x, xs, hx⟩ := List.exists_cons_of_ne_nil (qp c r)
   split at h
   ·rename_i hb
    subst hb
    rw [hx, List.getLast?_cons_cons, <- hx] at h
    rcases qX b r h with h1 | h1
    ·subst h1; rfl
    ·cases r with
     | nil => simp at h1
     | cons a t => rw [List.getLast?_cons_cons]; exact h1
   ·rw [hx] at h
    cases xs with
    | nil => simp at h
    | cons y ys =>
      simp only [List.headD_cons, List.tail_cons, List.getLast?_cons_cons] at h
      have h2 : (spl c r).getLast? = some [] := by rw [hx, List.getLast?_cons_cons]; exact h
      rcases qX c r h2 with h1 | h1
      ·subst h1; simp [spl] at hx
      ·cases r with
       | nil => simp at h1
       | cons a t => rw [List.getLast?_cons_cons]; exact h1
theorem aaN (c : UInt8) : ∀ l : List UInt8, c ∉ l -> spl c l = [l]
 | [], _ => rfl
 | b :: r, h => by
   simp only [List.mem_cons, not_or] at h
   rw [spl, if_neg (fun e => h.1 e.symm), aaN c r h.2]; rfl
theorem vz (c : UInt8) : ∀ l : List UInt8, (spl c l).length = 1 -> spl c l = [l]
 | [], _ => rfl
 | b :: r, h => by
   have hp := nV c r
   simp only [spl] at h |-
   split
   ·rename_i hb; rw [if_pos hb] at h; simp only [List.length_cons] at h; omega
   ·rename_i hb
    rw [if_neg hb] at h
    simp only [List.length_cons, List.length_tail] at h
    rw [vz c r (by omega)]; rfl
theorem kY (c : UInt8) : ∀ (l p : List UInt8), p ∈ spl c l -> p.length <= l.length
 | [], p, h => by simp [spl] at h; subst h; simp
 | b :: r, p, h => by
   simp only [spl] at h
   obtain ⟨x, xs, hx⟩ := List.exists_cons_of_ne_nil (qp c r)
   split at h
   ·rcases List.mem_cons.1 h with rfl | h
    ·simp
    ·have := kY c r p h; simp only [List.length_cons]; omega
   ·rw [hx] at h
    simp only [List.headD_cons, List.tail_cons] at h
    rcases List.mem_cons.1 h with rfl | h
    ·have := kY c r x (by rw [hx]; simp); simp only [List.length_cons]; omega
    ·have := kY c r p (by rw [hx]; simp [h]); simp only [List.length_cons]; omega
theorem lE (c : UInt8) : ∀ l : List UInt8, (spl c l).length <= l.length + 1
 | [] => by simp [spl]
 | b :: r => by
   have := lE c r
   have hp := nV c r
   simp only [spl]
   split
   ·simp only [List.length_cons]; omega
   ·simp only [List.length_cons, List.length_tail]; omega
def ac9 (pre : List UInt8) (ps : List (List UInt8)) : List (List UInt8) := (pre ++ ps.headD []) :: ps.tail
theorem xD (c : UInt8) (l : List UInt8) : ac9 [] (spl c l) = spl c l := by
 obtain ⟨x, xs, hx⟩ := List.exists_cons_of_ne_nil (qp c l)
 rw [hx]; rfl
theorem ab2 (c : UInt8) (pre r : List UInt8) : ac9 pre (spl c (c :: r)) = pre :: spl c r := by simp [spl, ac9]
theorem aa0 (b c : UInt8) (pre r : List UInt8) (h : b ≠ c) : ac9 pre (spl c (b :: r)) = ac9 (pre ++ [b]) (spl c r) := by simp [spl, ac9, h]
theorem ry (c : UInt8) (r : List UInt8) : Lib.index (c :: r) [c] = 0 := by
 simp [Lib.index]
theorem rO (b c : UInt8) (r : List UInt8) (h : b ≠ c) : Lib.index (b :: r) [c] = if Lib.index r [c] = -1 then -1 else Lib.index r [c] + 1 := by
 simp [Lib.index, Ne.symm h]
theorem ua (c : UInt8) : ∀ (l : List UInt8), Lib.splitK [c] 0 (l.count c) l = spl c l
 | [] => rfl
 | b :: r => by
   have ih := ua c r
   by_cases hb : b = c
   ·subst hb
    rw [List.count_cons_self, Lib.splitK, ry, if_neg (by decide)]
    simp only [spl, if_true]
    simpa using ih
   ·rw [List.count_cons_of_ne hb, spl, if_neg hb, <- ih]
    generalize hk : r.count c = k
    cases k with
    | zero => rfl
    | succ k =>
      have hge := Lib.index_ge r [c]
      have hin : Lib.index r [c] ≠ -1 := by
        intro h0
        have := Lib.count_one c r
        rw [Lib.count_miss h0, hk] at this
        omega
      rw [Lib.splitK, Lib.splitK, rO b c r hb, if_neg hin]
      have e1 : (Lib.index r [c] + 1 == -1) = false := by rw [beq_eq_false_iff_ne]; omega
      have e2 : (Lib.index r [c] == -1) = false := by rw [beq_eq_false_iff_ne]; exact hin
      rw [e1, e2]
      obtain ⟨i, hi⟩ := Int.eq_ofNat_of_zero_le (show 0 <= Lib.index r [c] by omega)
      rw [hi]
      have e3 : ((i : Int) + 1).toNat = i + 1 := by omega
      simp [e3]
def jJ (l : List UInt8) : Bool :=
 if ke l then true else
 if 1 < (spl 58 l).length then (if (spl 58 l).getLast? = some [] then (spl 58 l).dropLast.all bG && decide ((spl 58 l).length - 1 <= 4) else false)
 else bG l && !gw l
theorem zI : lod 58 = false := by decide
theorem ko (l : List UInt8) (h : bG l = true) : (58 : UInt8) ∉ l := by
 intro hm
 cases l with
 | nil => simp at hm
 | cons b r =>
   simp only [bG, Bool.and_eq_true, List.all_eq_true] at h
   rcases List.mem_cons.1 hm with e | e
   ·subst e
    have : e8 58 = true := h.1.2
    exact absurd this (by decide)
   ·have := h.2 58 e
    rw [zI] at this
    cases this
theorem lJ (l : List UInt8) : jJ l = bY l := by
 unfold jJ bY
 by_cases ho : ke l = true
 ·rw [if_pos ho, ho]; rfl
 ·rw [if_neg ho, Bool.eq_false_iff.2 ho, Bool.false_or]
  by_cases hn : 1 < (spl 58 l).length
  ·rw [if_pos hn]
   have hno : bT l = false := by
     rw [Bool.eq_false_iff]
     intro h
     simp only [bT, Bool.and_eq_true] at h
     have := aaN 58 l (ko l h.1)
     rw [this] at hn
     simp at hn
   rw [hno, Bool.false_or]
   by_cases hl : l.getLast? = some 58
   ·obtain ⟨m, rfl⟩ := List.getLast?_eq_some_iff.1 hl
    simp only [mM, List.getLast?_append, List.getLast?_singleton, Option.some_or, if_true, List.dropLast_concat, List.length_append, List.length_singleton, Nat.add_sub_cancel]
    simp only [kwL, List.getLast?_append, List.getLast?_singleton, Option.some_or, if_true, List.dropLast_concat]
    split
    ·rename_i h; rw [h]; rfl
    ·rename_i h; rw [Bool.eq_false_iff.2 h]; rfl
   ·have h2 : ¬ (spl 58 l).getLast? = some [] := by
      intro h
      rcases qX 58 l h with h1 | h1
      ·subst h1; simp [spl] at hn
      ·exact hl h1
    rw [if_neg h2]
    simp [kwL, hl]
  ·rw [if_neg hn]
   have hone := vz 58 l (by have := nV 58 l; omega)
   have hk : kwL l = none := by
     unfold kwL
     by_cases hl : l.getLast? = some 58
     ·obtain ⟨m, rfl⟩ := List.getLast?_eq_some_iff.1 hl
      rw [mM] at hn
      have := nV 58 m
      simp at hn
      exact absurd hn (qp 58 m)
     ·rw [if_neg hl]
   rw [hk]
   simp [bT]
def kb (l : List UInt8) : Int := if jJ l then (if ke l then 1 else ((spl 58 l).length : Int) - 1) else -1
theorem vi (l : List UInt8) : kb l = bQ l := by
 unfold kb bQ
 rw [lJ]
 by_cases ho : ke l = true
 ·simp [bY, ho]
 ·rw [Bool.eq_false_iff.2 ho]
  by_cases hn : bT l = true
  ·have := aaN 58 l (ko l (by simp only [bT, Bool.and_eq_true] at hn; exact hn.1))
   simp [bY, hn, this]
  ·rw [Bool.eq_false_iff.2 hn]
   cases hk : kwL l with
   | none => simp [bY, Bool.eq_false_iff.2 ho, Bool.eq_false_iff.2 hn, hk]
   | some ps =>
     simp only [bY, Bool.eq_false_iff.2 ho, Bool.eq_false_iff.2 hn, hk, Option.isSome_some, Bool.or_true, if_true, Bool.false_eq_true, if_false]
     unfold kwL at hk
     by_cases hl : l.getLast? = some 58
     ·obtain ⟨m, rfl⟩ := List.getLast?_eq_some_iff.1 hl
      rw [if_pos hl, List.dropLast_concat] at hk
      split at hk
      ·simp only [Option.some.injEq] at hk
       subst hk
       rw [mM]; simp
      ·cases hk
     ·rw [if_neg hl] at hk; cases hk
def qs (w : World) : Prop := ∃ m : Int, w.cell? ⟨0, 0, none⟩ = some (.int .i64 m)
theorem qs.below {w w' : World} (h : qs w) (hb : Below w.heap.size w w') : qs w' := by
 obtain ⟨m, hm⟩ := h
 exact ⟨m, (hb.cell (World.block_lt_of_cell? w _ hm)).trans hm⟩
theorem Tryz.infoStr : (Tryz.prog.info? 9).map (fun i => (i.zero, i.size, i.bytes)) = some (some (.string ByteArray.empty), 1, 16) := by kernel_rfl
def lq (l : List ByteArray) : List PT := l.map PT.str
theorem wb (l : List ByteArray) : (lq l).length = l.length := by simp [lq]
theorem vo (a b : List ByteArray) : lq (a ++ b) = lq a ++ lq b := by simp [lq]
theorem jZ (l : List ByteArray) : PT.cellsL (lq l) = l.map Value.string := by
 induction l with
 | nil => rfl
 | cons z r ih => simp only [lq, List.map_cons, PT.cellsL, PT.cells] at *; rw [ih]; rfl
theorem lP (l : List ByteArray) : PT.blocksL (lq l) = [] := by
 induction l with
 | nil => rfl
 | cons z r ih => simp only [lq, List.map_cons, PT.blocksL, PT.blocks] at *; rw [ih]; rfl
theorem zi (l : List ByteArray) : ∀ t ∈ lq l, t.cells.length = 1 := fun t ht => by
 simp only [lq, List.mem_map] at ht; obtain ⟨z, _, rfl⟩ := ht; rfl
theorem abw (w : World) (l : List ByteArray) : jo w (lq l) := jo.of_get fun t ht => by
 simp only [lq, List.mem_map] at ht; obtain ⟨z, _, rfl⟩ := ht; trivial
theorem dM.str_at {w : World} {S : Nat -> Prop} {A : Option Addr} {c : Nat} {l : List ByteArray} (h : dM w S (.sl A c 1 (lq l))) {k : Nat} (hk : k < l.length) :
   ∃ b o, A = some ⟨b, o, none⟩ /\ S b /\ w.cell? ⟨b, o + k, none⟩ = some (.string (l[k]'hk)) := by
 have h1 := h.2.2.1
 rw [jZ] at h1
 exact h1 k _ (by simp [hk])
theorem fe {w : World} {S : Nat -> Prop} (l : List ByteArray) (e : TypeId) (hl : l.length <= maxLen) (hS : S w.heap.size) : cq (w.alloc (.cells (l.map Value.string).toArray e)) S (.sl (some ⟨w.heap.size, 0, none⟩) l.length 1 (lq l)) :=
 ⟨eN (zi l) (by rw [jZ]; simp [lq]) (heap_alloc_new w _) (by simp [lq]) hl (by simp) (by rw [jZ]; simp [lq, List.take_of_length_le]) (abw _ _), by simp [PT.blocks, lP, PT.rowOf],
   by simpa [PT.blocks, lP, PT.rowOf] using hS⟩
def eO : List ByteArray := acn.map fun l => ⟨l.toArray⟩
def p6 : List ByteArray := ops.map fun l => ⟨l.toArray⟩
def ij (l : List ByteArray) (s : ByteArray) : Bool := l.any fun x => x.toList == s.toList
theorem lK (s : ByteArray) : ij eO s = gw s.data.toList := by
 rw [Bool.eq_iff_iff]
 simp only [ij, eO, gw, List.any_map, List.any_eq_true, Function.comp, List.contains_iff_mem, beq_iff_eq, Lib.toList_data]
 exact ⟨fun ⟨x, h1, h2⟩ => by rw [<- h2]; exact h1, fun h => ⟨_, h, rfl⟩⟩
theorem sr (s : ByteArray) : ij p6 s = ke s.data.toList := by
 rw [Bool.eq_iff_iff]
 simp only [ij, p6, ke, List.any_map, List.any_eq_true, Function.comp, List.contains_iff_mem, beq_iff_eq, Lib.toList_data]
 exact ⟨fun ⟨x, h1, h2⟩ => by rw [<- h2]; exact h1, fun h => ⟨_, h, rfl⟩⟩
theorem yJ (s : ByteArray) (w : World) : Calls Tryz.prog 300 #[.string s] w fun e w' => e = .returned (.bool (gw s.data.toList)) /\ w = w' := by
 have hL := Lib.toList_data s
 have hd : gw s.data.toList = ij eO s := (lK s).symm
 have Hd := Lib.hid hd
 have HL := Lib.hid hL
 clear hd hL
 go_enter Tryz.func300, Tryz.ntmps300
 go_wp2
 all_goals (go_ret; exact ⟨br (by have := HL.out; simp_all [gw, acn]), rfl⟩)
theorem j6 (A : Option Addr) (c : Nat) (l : List ByteArray) (s : ByteArray) (w : World) (S : Nat -> Prop) (hs : dM w S (.sl A c 1 (lq l))) (hn : l.length <= 1048576) :
   Calls Tryz.prog 212 #[.slice A l.length c, .string s] w fun e w' => e = .returned (.bool (ij l s)) /\ ∃ n, w' = w.drewN n := by
 go_enter Tryz.func212, Tryz.ntmps212
 go_wp2
 go_loopw [5] (fun i wr => ∃ k n : Nat, k <= l.length /\ i = .int .i64 k /\ wr = w.drewN n /\ ij l s = ij (l.drop k) s) (fun i _ => l.length - (intOf i).toNat)
 case atStart => exact ⟨0, 0, Nat.zero_le _, rfl, rfl, rfl⟩
 case round =>
   obtain ⟨k, n, hk, rfl, rfl, hr⟩ := hrel
   have Hr := Lib.hid hr
   clear hr
   by_cases hlt : k < l.length
   ·obtain ⟨b, o, rfl, _, hcell⟩ := hs.str_at hlt
    have hd : ij (l.drop k) s = (l[k].toList == s.toList || ij (l.drop (k + 1)) s) := by rw [List.drop_eq_getElem_cons hlt]; rfl
    have Hd := Lib.hid hd
    clear hd hs
    cases hq : l[k].toList == s.toList
    all_goals
      go_wp2
      first
        | (
            go_roundw
            case rel => exact ⟨k + 1, n, by omega, by go_num, rfl, by rw [Hr.out, Hd.out, hq]; rfl⟩
            case measure => simp [intOf]; omega)
        | (
            go_ret
            exact ⟨br (by rw [Hr.out, Hd.out, hq]; rfl), n, rfl⟩)
   ·go_wp2
    go_ret
    exact ⟨br (by rw [Hr.out, List.drop_eq_nil_of_le (by omega)]; rfl), n, rfl⟩
theorem wa (w : World) : Calls Tryz.prog 249 #[] w fun e w' => e = .returned (.slice (some ⟨w.heap.size, 0, none⟩) 7 7) /\ w.alloc (.cells (eO.map Value.string).toArray 9) = w' := by
 go_enter Tryz.func249, Tryz.ntmps249
 go_wp2
 go_ret
 exact ⟨rfl, rfl⟩
theorem fT (w : World) : Calls Tryz.prog 246 #[] w fun e w' => e = .returned (.slice (some ⟨w.heap.size, 0, none⟩) 15 15) /\ w.alloc (.cells (p6.map Value.string).toArray 9) = w' := by
 go_enter Tryz.func246, Tryz.ntmps246
 go_wp2
 go_ret
 exact ⟨rfl, rfl⟩
theorem qO (w : World) : Calls Tryz.prog 303 #[] w fun e w' => e = .returned (.slice (some ⟨w.heap.size, 0, none⟩) 15 15) /\ w.alloc (.cells (p6.map Value.string).toArray 9) = w' := by
 go_enter Tryz.func303, Tryz.ntmps303
 go_wp2
 go_ret
 exact ⟨rfl, rfl⟩
def ef (s : ByteArray) (l : List ByteArray) : ByteArray := (l.find? fun x => Lib.hasPrefix s.data.toList x.data.toList).getD ByteArray.empty
theorem vM (A : Option Addr) (c : Nat) (l : List ByteArray) (s : ByteArray) (w : World) (S : Nat -> Prop) (hs : dM w S (.sl A c 1 (lq l))) (hn : l.length <= 1048576) :
   Calls Tryz.prog 302 #[.string s, .slice A l.length c] w fun e w' => e = .returned (.string (ef s l)) /\ ∃ n, w' = w.drewN n := by
 go_enter Tryz.func302, Tryz.ntmps302
 go_wp2
 go_loopw [9] (fun i wr => ∃ k n : Nat, k <= l.length /\ i = .int .i64 k /\ wr = w.drewN n /\ ef s l = ef s (l.drop k)) (fun i _ => l.length - (intOf i).toNat)
 case atStart => exact ⟨0, 0, Nat.zero_le _, rfl, rfl, rfl⟩
 case round =>
   obtain ⟨k, n, hk, rfl, rfl, hr⟩ := hrel
   have Hr := Lib.hid hr
   clear hr
   by_cases hlt : k < l.length
   ·obtain ⟨b, o, rfl, _, hcell⟩ := hs.str_at hlt
    have hd : ef s (l.drop k) = if Lib.hasPrefix s.data.toList l[k].data.toList then l[k] else ef s (l.drop (k + 1)) := by
      rw [List.drop_eq_getElem_cons hlt]
      simp only [ef, List.find?_cons]
      split <;> simp_all
    have Hd := Lib.hid hd
    clear hd hs
    cases hq : Lib.hasPrefix s.data.toList l[k].data.toList
    all_goals
      go_wp2_with (go_at_call 324; refine (Tryz.strings_HasPrefix _ _ _).mono ?_; rintro e w' ⟨rfl, rfl⟩)
      first
        | (
            go_roundw
            case rel => exact ⟨k + 1, n, by omega, by go_num, rfl, by rw [Hr.out, Hd.out, hq]; rfl⟩
            case measure => simp [intOf]; omega)
        | (
            go_ret
            exact ⟨iF (by rw [Hr.out, Hd.out, hq]; rfl), n, rfl⟩)
   ·go_wp2
    go_ret
    exact ⟨iF (by rw [Hr.out, List.drop_eq_nil_of_le (by omega)]; rfl), n, rfl⟩
theorem tS (s : ByteArray) (l : List ByteArray) (h : ef s l = s) (hs : s.data.toList ≠ []) : s ∈ l := by
 unfold ef at h
 cases hf : l.find? (fun x => Lib.hasPrefix s.data.toList x.data.toList) with
 | none => rw [hf] at h; simp only [Option.getD_none] at h; rw [<- h] at hs; exact absurd rfl hs
 | some x => rw [hf] at h; simp only [Option.getD_some] at h; subst h; exact List.mem_of_find?_eq_some hf
theorem sC : ∀ l ∈ p6, ((ef l p6).toList == l.toList) = true /\ l.toList ≠ [] := by decide +kernel
theorem adP (s : ByteArray) : (!s.toList.isEmpty && (ef s p6).toList == s.toList) = ke s.data.toList := by
 rw [<- sr, Bool.eq_iff_iff]
 constructor
 ·intro h
  simp only [Bool.and_eq_true, Bool.not_eq_true', beq_iff_eq] at h
  have h1 : ef s p6 = s := ja (by rw [<- Lib.toList_data, <- Lib.toList_data]; exact h.2)
  have h2 : s ∈ p6 := tS s p6 h1 (by intro e; rw [<- Lib.toList_data] at e; rw [e] at h; simp at h)
  simp only [ij, List.any_eq_true]
  exact ⟨s, h2, by simp⟩
 ·intro h
  simp only [ij, List.any_eq_true] at h
  obtain ⟨x, hx, he⟩ := h
  have e : x = s := ja (by rw [<- Lib.toList_data, <- Lib.toList_data]; exact beq_iff_eq.1 he)
  subst e
  obtain ⟨h1, h2⟩ := sC x hx
  rw [h1]
  cases hx : x.toList with
  | nil => exact absurd hx h2
  | cons => rfl
theorem bZ (s : ByteArray) (w : World) : Calls Tryz.prog 256 #[.string s] w fun e w' => e = .returned (.bool (ke s.data.toList)) /\ Below w.heap.size w w' := by
 have Hq := Lib.hid (adP s)
 cases hn : s.toList.isEmpty
 all_goals
   go_enter Tryz.func256, Tryz.ntmps256
   go_wp2_with (first
     | (go_at_call 303; refine (qO _).mono ?_; rintro e w' ⟨rfl, rfl⟩)
     | (go_at_call 302; refine (vM _ 15 p6 s _ (fun _ => True) (fe p6 _ (by decide) trivial).seen (by decide)).mono ?_; rintro e w' ⟨rfl, n, rfl⟩))
   go_ret
   first
     | exact ⟨br (by rw [<- Hq.out, hn]; rfl), Below.refl _ _⟩
     | exact ⟨br (by rw [<- Hq.out, hn]; rfl), aW ((Below.refl _ _).alloc (Nat.le_refl _) _) _⟩
theorem eu (s : ByteArray) (w : World) (hs : s.size <= 1048576) : Calls Tryz.prog 254 #[.string s] w fun e w' => e = .returned (.bool (bT s.data.toList)) /\ ∃ n, w' = w.drewN n := by
 cases hp : bG s.data.toList
 all_goals
   go_enter Tryz.func254, Tryz.ntmps254
   go_wp2_with (first
     | (go_at_call 299; refine (lr s _ hs).mono ?_; rintro e w' ⟨rfl, n, rfl⟩)
     | (go_at_call 300; refine (yJ s _).mono ?_; rintro e w' ⟨rfl, rfl⟩))
   go_ret
   exact ⟨br (by rw [bT, hp]; simp), n, rfl⟩
theorem eM (s : ByteArray) (w : World) (hs : s.size <= 1048576) : Calls Tryz.prog 248 #[.string s] w fun e w' => e = .returned (.bool (bG s.data.toList)) /\ ∃ n, w' = w.drewN n := by
 by_cases h1 : 1 <= (s.size : Int)
 ·have h0 : 0 < s.size := by omega
  have Hf := Lib.hid (iq s h0)
  have Hr := Lib.hid (lI s.data.toList)
  have hr : eh s.data.toList <= s.size := by have := nS s.data.toList; rw [aP] at this; exact this
  by_cases h2 : (s.size : Int) <= 20
  all_goals cases hl : e8 s[0]
  all_goals
    go_enter Tryz.func248, Tryz.ntmps248
    go_wp2_with (first
      | (go_at_call 295; refine (mo s[0] _).mono ?_; rintro e w' ⟨rfl, rfl⟩)
      | (go_at_call 296; refine (aar s 0 _ hs (by omega)).mono ?_; rintro e w' ⟨rfl, n, rfl⟩))
    go_ret
    first
      | exact ⟨br (by rw [Hf.out, hl, decide_eq_false (by omega)]; rfl), 0, rfl⟩
      | exact ⟨br (by rw [Hf.out, hl]; simp), 0, rfl⟩
      | (
          refine ⟨br ?_, n, rfl⟩
          rw [Hf.out, hl, decide_eq_true (show s.size <= 20 by omega)]
          have hx := Hr.out
          rw [aP] at hx
          rw [Bool.eq_iff_iff]
          simp only [Bool.true_and, <- hx]
          simp
          try omega)
 ·go_enter Tryz.func248, Tryz.ntmps248
  go_wp2
  go_ret
  exact ⟨br (nz s (by omega)).symm, 0, rfl⟩
theorem gm {ops : Array Oper} {rest : List Oper} {o : Oper} {a : Act} {Q : Exit -> Act -> World -> Prop} {w : World} (hgd : o.guard = none) (s x : Operand)
   (ho : o.op = .call { callee := .builtin .append, args := #[s, x], argTypes := #[28, 28] }) {S : Nat -> Prop} (A : Option Addr) (c n : Nat) (l : List ByteArray) (v : ByteArray)
   (hs : a.eval s = .slice A n c) (hx : a.eval x = .slice (some ⟨w.heap.size, 0, none⟩) 1 1) (hown : cq w S (.sl A c 1 (lq l))) (hn : n = l.length) (hS : S (w.heap.size + 1)) (hl : n <= 1000000000)
   (h : ∀ A' c' w', cq w' S (.sl A' c' 1 (lq (l ++ [v]))) -> dC (· ∈ PT.rowOf A) w w' -> (∀ g, A = some ⟨g, 0, none⟩ -> ∃ g', A' = some ⟨g', 0, none⟩) -> wpList Tryz.prog ops Q rest (a.put o.dst (.slice A' (n + 1) c')) w') :
   wpList Tryz.prog ops Q (o :: rest) a (w.alloc (.cells #[.string v] 9)) :=
 lm hgd s x 28 9 (.string ByteArray.empty) 1 16 ho Tryz.underlying28 Tryz.infoStr rfl (by omega) A c n (lq l) (.str v) hs hx hown (by rw [wb]; exact hn) rfl trivial rfl hS hl (by omega)
   fun A' c' w' h1 h2 h3 => h A' c' w' (by rw [vo]; exact h1) h2 h3
theorem kf (s : ByteArray) (b : UInt8) (w : World) (hs : s.size <= 1048576) : Calls Tryz.prog 247 #[.string s, .int .u8 (b.toNat : Int)] w fun e w' => ∃ (ps : List ByteArray) (g c : Nat), ps.map (·.data.toList) = spl b s.data.toList /\ e = .returned (.slice (some ⟨g, 0, none⟩) ps.length c) /\ Below w.heap.size w w' /\ cq w' (w.heap.size <= ·) (.sl (some ⟨g, 0, none⟩) c 1 (lq ps)) := by
 go_enter Tryz.func247, Tryz.ntmps247
 go_wp2
 go_loopw [5, 6, 7] (fun ov fv iv wr => ∃ (k f m g c : Nat) (ps : List ByteArray), k <= s.size + 1 /\ iv = .int .i64 k /\ fv = .int .i64 f /\ f <= k /\ m <= k /\ ps.length = m /\ ov = .slice (some ⟨g, 0, none⟩) m c /\ Below w.heap.size w wr /\ cq wr (w.heap.size <= ·) (.sl (some ⟨g, 0, none⟩) c 1 (lq ps)) /\
   (if k <= s.size then ps.map (·.data.toList) ++ ac9 ((s.data.toList.take k).drop f) (spl b (s.data.toList.drop k)) else ps.map (·.data.toList)) = spl b s.data.toList) (fun _ _ iv _ => s.size + 1 - (intOf iv).toNat)
 case atStart => exact ⟨0, 0, 0, _, _, [], Nat.zero_le _, rfl, rfl, Nat.le_refl _, Nat.le_refl _, rfl, rfl, (Below.refl _ _).alloc (Nat.le_refl _) _, x3 _ _ (Nat.le_refl _), by simp [xD]⟩
 case round =>
   obtain ⟨k, f, m, g, c, ps, hk, rfl, rfl, hf, hm, hl, rfl, hb, ho, hr⟩ := hrel
   have Hr := Lib.hid hr
   have Hl := Lib.hid hl
   clear hr hl
   have hg : w.heap.size <= g := ho.2.2 g (by simp [PT.blocks, PT.rowOf])
   have hsz := hb.size
   by_cases hlt : k <= s.size
   ·by_cases hend : k = s.size
    ·have he : ((k : Int) == (s.size : Int)) = true := by simp [hend]
     have Hend := Lib.hid hend
     clear hend
     go_wp2_with (at_builtin; refine gm rfl (.tmp 26) (.tmp 31) rfl (S := (w.heap.size <= ·)) (some ⟨g, 0, none⟩) c m ps (s.extract f k) rfl rfl ho Hl.out.symm (by omega) (by omega) ?_; intro A5 c5 w5 ho5 ht5 hA5)
     obtain ⟨g5, rfl⟩ := hA5 g rfl
     have hb5 := hb.trans (ht5.below (B := w.heap.size) hb.size (fun b h => by simp [PT.rowOf] at h; omega))
     clear ho hb ht5
     go_roundw
     case rel =>
       refine ⟨k + 1, k + 1, m + 1, g5, c5, ps ++ [s.extract f k], by omega, by go_num, by go_num, Nat.le_refl _, by omega, by simp [Hl.out], rfl, hb5, ho5, ?_⟩
       have h1 := Hr.out
       have h2 := Hend.out
       rw [if_pos hlt] at h1
       have h5 : s.data.toList.drop s.size = [] := List.drop_eq_nil_of_le (by rw [aP]; omega)
       rw [if_neg (by omega), <- h1, h2, h5]
       simp only [spl, ac9, List.headD_cons, List.append_nil, List.tail_cons, List.map_append, List.map_cons, List.map_nil]
       rw [Lib.extract_data, <- List.drop_take]
     case measure => simp [intOf]; omega
    ·have he : ((k : Int) == (s.size : Int)) = false := by simp; omega
     have hks : k < s.size := by omega
     have hdr := na s hks
     have Hdr := Lib.hid hdr
     clear hdr
     cases hq : ((s[k].toNat : Int) == (b.toNat : Int))
     ·go_wp2
      go_roundw
      case rel =>
        refine ⟨k + 1, f, m, g, c, ps, by omega, by go_num, rfl, by omega, by omega, Hl.out, rfl, hb, ho, ?_⟩
        have h1 := Hr.out
        rw [if_pos hlt, Hdr.out, aa0 _ _ _ _ (fun e => by simp [e] at hq)] at h1
        rw [if_pos (by omega), <- h1]
        have h3 : (s.data.toList.take (k + 1)).drop f = (s.data.toList.take k).drop f ++ [s[k]] := by
          rw [List.take_add_one, List.getElem?_eq_getElem (by rw [aP]; exact hks), List.drop_append_of_le_length (by rw [List.length_take, aP]; omega)]
          rfl
        rw [h3]
      case measure => simp [intOf]; omega
     ·go_wp2_with (at_builtin; refine gm rfl (.tmp 26) (.tmp 31) rfl (S := (w.heap.size <= ·)) (some ⟨g, 0, none⟩) c m ps (s.extract f k) rfl rfl ho Hl.out.symm (by omega) (by omega) ?_; intro A5 c5 w5 ho5 ht5 hA5)
      obtain ⟨g5, rfl⟩ := hA5 g rfl
      have hb5 := hb.trans (ht5.below (B := w.heap.size) hb.size (fun b h => by simp [PT.rowOf] at h; omega))
      clear ho hb ht5
      go_roundw
      case rel =>
        refine ⟨k + 1, k + 1, m + 1, g5, c5, ps ++ [s.extract f k], by omega, by go_num, by go_num, Nat.le_refl _, by omega, by simp [Hl.out], rfl, hb5, ho5, ?_⟩
        have h1 := Hr.out
        have hbb : s[k] = b := by
          have : (s[k].toNat : Int) = (b.toNat : Int) := beq_iff_eq.1 hq
          exact UInt8.toNat_inj.1 (by omega)
        rw [if_pos hlt, Hdr.out, hbb, ab2] at h1
        have h4 : ((s.data.toList.take (k + 1)).drop (k + 1)) = [] := List.drop_eq_nil_of_le (by rw [List.length_take]; omega)
        rw [if_pos (by omega), h4, xD, <- h1]
        simp only [List.map_append, List.map_cons, List.map_nil, List.append_assoc, List.singleton_append]
        rw [Lib.extract_data, <- List.drop_take]
      case measure => simp [intOf]; omega
   ·go_wp2
    go_ret
    refine ⟨ps, g, c, ?_, by rw [Hl.out]; rfl, hb, ho⟩
    have := Hr.out
    rw [if_neg hlt] at this
    exact this
theorem Tryz.intSz : (Tryz.prog.info? 3).map (·.size) = some 1 := by kernel_rfl
def rF (n k : Nat) : List Value := List.replicate k (.int .i64 (-1)) ++ List.replicate (n - k) (.int .i64 0)
theorem vX {n k : Nat} (h : k <= n) : (rF n k).length = n := by simp [rF]; omega
theorem vR {n k m : Nat} (h : k + m <= n) : (rF n k).take k ++ (List.replicate m (.int .i64 (-1)) ++ (rF n k).drop (k + m)) = rF n (k + m) := by
 have h1 : (rF n k).take k = List.replicate k (.int .i64 (-1)) := by
   unfold rF; rw [List.take_append_of_le_length (by simp)]; simp
 have h2 : (rF n k).drop (k + m) = List.replicate (n - (k + m)) (.int .i64 0) := by
   unfold rF; rw [List.drop_append]; simp; omega
 rw [h1, h2, <- List.append_assoc, List.replicate_append_replicate]; rfl
theorem acA {n k j : Nat} (h : j < k) (_hk : k <= n) : (rF n k)[j]? = some (.int .i64 (-1)) := by
 unfold rF
 rw [List.getElem?_append_left (by simpa using h)]
 simp [h]
theorem yP (B q c n : Nat) (w : World) (hc : w.cell? ⟨B, q, none⟩ = some (.int .i64 (-1))) (hn0 : 1 <= n) (hn : n <= 1048576) :
   Calls Tryz.prog 199 #[.slice (some ⟨B, q, none⟩) 1 c, .int .i64 n] w fun e w' => e = .returned (.slice (some ⟨w.heap.size, 0, none⟩) n n) /\ Below w.heap.size w w' /\ Blk w' w.heap.size 3 (List.replicate n (Value.int .i64 (-1))).toArray := by
 have hmk := fun w => qB (P := Tryz.prog) 34 3 (.int .i64 0) 1 8 Tryz.underlying34 Tryz.infoInt .i64 .i64 n (by omega) (by omega) w
 have hd1 : ((1 * n / 18446744073709551616 : Nat) : Int) = 0 := by omega
 have hd2 : ((1 * n % 18446744073709551616 : Nat) : Int) = (n : Int) := by omega
 have Hd1 := Lib.hid hd1
 have Hd2 := Lib.hid hd2
 have i1 : ¬ (n : Int) < 0 := by omega
 have i2 : ¬ (9223372036854775807 : Int) < (n : Int) := by omega
 clear hd1 hd2
 go_enter Tryz.func199, Tryz.ntmps199
 clear hmk
 go_wp2_with fail
 refine (Tryz.bits_Mul 1 n (by omega) (by omega) _).mono ?_
 rintro e w' ⟨he, hw⟩
 rw [Hd1.out, Hd2.out] at he
 subst he
 subst hw
 have hmk := fun w => qB (P := Tryz.prog) 34 3 (.int .i64 0) 1 8 Tryz.underlying34 Tryz.infoInt .i64 .i64 n (by omega) (by omega) w
 have hcell : (w'.alloc (.cells (madeCells #[Value.int .i64 0] n) 3)).cell? ⟨B, q, none⟩ = some (.int .i64 (-1)) := (Below.cell (B := w'.heap.size) ((Below.refl _ _).alloc (Nat.le_refl _) _) (p := ⟨B, q, none⟩) (World.block_lt_of_cell? w' _ hc)).trans hc
 have hmin : 1 = Nat.min 1 n := (Nat.min_eq_left hn0).symm
 have Hmin := Lib.hid hmin
 have Hs1 := Lib.hid (show ∀ (j : Nat) v, [Value.int .i64 (-1)][j]? = some v -> (w'.alloc (.cells (madeCells #[Value.int .i64 0] n) 3)).cell? ((⟨B, q, none⟩ : Addr).add j) = some v from fun j v hj => by
   have hj0 : j = 0 := by have := (List.getElem?_eq_some_iff.1 hj).1; simpa using this
   subst hj0
   simp at hj
   subst hj
   exact hcell)
 clear hmin
 go_wp2_with ((refine wpList_copy_own rfl (.tmp 31) (.tmp 32) 34 34 rfl 3 Tryz.underlying34 Tryz.intSz w'.heap.size 0 n n ⟨B, q, none⟩ 1 c rfl rfl (madeCells #[Value.int .i64 0] n) 3 (heap_alloc_new w' _) [.int .i64 (-1)] Hmin.out Hs1.out (by simp [madeCells]; omega) (by simp [Value.oneCell']) ?_))
 clear hmk hcell hc
 go_loopg [8] (n - 1) (fun gk v wr => ∃ k : Nat, 1 <= k /\ k <= n /\ gk = n - k /\ v = .int .i64 k /\ Below w'.heap.size w' wr /\ Blk wr w'.heap.size 3 (rF n k).toArray)
 case atStart =>
   refine ⟨1, Nat.le_refl _, hn0, rfl, rfl, below_setRow ((Below.refl _ _).alloc (Nat.le_refl _) _) (Nat.le_refl _) _, ?_⟩
   have h := setRow_heap (w'.alloc (.cells (madeCells #[Value.int .i64 0] n) 3)) w'.heap.size (madeCells #[Value.int .i64 0] n) (rF n 1).toArray 3 (0, 0) (heap_alloc_new w' _)
   have e : (rF n 1) = Value.int .i64 (-1) :: (madeCells #[Value.int .i64 0] n).toList.tail := by
     rw [toList_madeCells_one, List.tail_replicate]; simp [rF]
   rw [e] at h |-
   exact h
 case round =>
   obtain ⟨k, hk1, hk, rfl, rfl, hb, hB⟩ := hrel
   by_cases hlt : k < n
   ·have hne : ¬ n = k := by omega
    have i3 : (0 : Int) <= (k : Int) := by omega
    have i4 : (k : Int) <= (n : Int) := by omega
    have hmm : Nat.min k (n - k) <= n - k /\ Nat.min k (n - k) <= k := ⟨Nat.min_le_right _ _, Nat.min_le_left _ _⟩
    generalize hmd : Nat.min k (n - k) = m at hmm
    have Hmd := Lib.hid hmd
    have hm1 : 1 <= m := by rw [<- hmd]; exact Nat.le_min.2 ⟨hk1, by omega⟩
    clear hmd
    have Hs2 := Lib.hid (show ∀ (j : Nat) v, (List.replicate m (Value.int .i64 (-1)))[j]? = some v -> wr.cell? ((⟨w'.heap.size, 0, none⟩ : Addr).add j) = some v from fun j v hj => by
      have hjm : j < m := by have := (List.getElem?_eq_some_iff.1 hj).1; simpa using this
      simp [hjm] at hj
      subst hj
      rw [Addr.add_lit, Nat.zero_add, hB.cell j]
      simpa using acA (n := n) (k := k) (j := j) (by omega) hk)
    have Hspl := Lib.hid (vR (n := n) (k := k) (m := m) (by omega))
    have HL := Lib.hid (vX hk)
    have HB := Lib.hid hB
    clear hB
    go_wp2
    have HB2 := Lib.hid (show wr.drew.heap[w'.heap.size]? = some (.cells (rF n k).toArray 3 (0, 0)) from HB.out)
    go_region_held3 (fun W => Below w'.heap.size w' W) (first | exact hb | exact hb.drew | exact h4) (first | (refine step_copy_splice rfl (.tmp 41) (.tmp 44) 34 34 rfl 3 Tryz.underlying34 Tryz.intSz _ _ (n - k) (n - k) k n rfl rfl w'.heap.size k (rF n k) 3 HB2.out (List.replicate m (.int .i64 (-1))) (by rw [List.length_replicate, Hmd.out]) (fun _ => ⟨by simp, _, rfl, Hs2.out⟩) (by rw [List.length_replicate, HL.out]; omega) (fun v hv => by rw [List.eq_of_mem_replicate hv]; rfl) w'.heap.size w' (by exact hb.drew) (Nat.le_refl _) ?_; intro w3 h3 h4))
    all_goals
      have h5 : Blk w3 w'.heap.size 3 (rF n (k + m)).toArray := by
        have := h3.out
        unfold splice at this
        rw [List.length_replicate, Hspl.out] at this
        exact this
      clear h3
      go_wp2
      go_roundg (n - (k + m))
      case measure => omega
      case rel => exact ⟨k + m, by omega, by omega, rfl, by simp; exact IntWalk.i64_in _ (by omega), h4, h5⟩
   ·go_wp2
    go_ret
    obtain rfl : k = n := by omega
    refine ⟨rfl, hb, ?_⟩
    unfold rF at hB
    simpa using hB
theorem aeC (c : UInt8) (new : List UInt8) : ∀ l : List UInt8, Lib.replaceK [c] new (Lib.count l [c]) l = l.flatMap (fun b => if b = c then new else [b])
 | [] => by
   rw [Lib.count_one]
   rfl
 | b :: l => by
   have ih := aeC c new l
   by_cases hb : b = c
   ·subst hb
    have hix : Lib.index (b :: l) [b] = ((0 : Nat) : Int) := by rw [Lib.index]; simp [List.isPrefixOf]
    rw [Lib.count_cons_eq, Nat.add_comm 1, Lib.replaceK_hit _ _ _ _ 0 hix, List.flatMap_cons, if_pos rfl]
    simp only [List.take_zero, List.nil_append, Nat.zero_add, List.length_singleton, List.drop_succ_cons, List.drop_zero]
    rw [ih]
   ·rw [Lib.count_cons_ne b c l hb, List.flatMap_cons, if_neg hb, <- ih]
    cases hk : Lib.count l [c] with
    | zero => rfl
    | succ k =>
      obtain ⟨i, hi⟩ := Lib.index_of_count (s := l) (old := [c]) (by omega)
      have hp : ([c] : List UInt8).isPrefixOf (b :: l) = false := by simp [List.isPrefixOf, Ne.symm hb]
      have hix : Lib.index (b :: l) [c] = ((i + 1 : Nat) : Int) := by
        rw [Lib.index, hp, if_neg (by simp), hi, if_neg (by simp)]
        rfl
      rw [Lib.replaceK_hit _ _ _ _ _ hix, Lib.replaceK_hit _ _ _ _ _ hi]
      simp only [List.take_succ_cons, List.length_singleton, List.cons_append, List.nil_append]
      rw [show i + 1 + 1 = (i + 1) + 1 from rfl, List.drop_succ_cons]
theorem acx (c d e : UInt8) (l : List UInt8) : Lib.replaceAll l [c] [d, e] = l.flatMap (fun b => if b = c then [d, e] else [b]) := by
 unfold Lib.replaceAll Lib.replace
 rw [if_neg (by simp)]
 unfold Lib.replaceNum
 rw [if_pos (.inl (by decide))]
 exact aeC c [d, e] l
def aeo (l : List UInt8) (w w' : World) (e : Ending) : Prop :=
 Below w.heap.size w w' /\ match kwL l with
   | some ps => ∃ b o c, e = .returned (.slice (some ⟨b, o, none⟩) ps.length c)
   | none => e = .returned (.slice none 0 0)
theorem tZ (s : ByteArray) : Lib.hasSuffix s.data.toList [58] = decide (s.data.toList.getLast? = some 58) := by
 rw [Bool.eq_iff_iff, decide_eq_true_iff]
 simp only [Lib.hasSuffix, List.isSuffixOf_iff_suffix, List.getLast?_eq_some_iff]
 exact ⟨fun ⟨t, h⟩ => ⟨t, h.symm⟩, fun ⟨t, h⟩ => ⟨t, h.symm⟩⟩
theorem nk (s : ByteArray) (w : World) (hs : s.size <= 1048576) (hm : qs w) : Calls Tryz.prog 257 #[.string s] w fun e w' => aeo s.data.toList w w' e := by
 have hsuf := tZ s
 cases hc : Lib.hasSuffix s.data.toList [58]
 ·have hk : kwL s.data.toList = none := by
    rw [hsuf, decide_eq_false_iff_not] at hc
    unfold kwL; rw [if_neg hc]
  clear hsuf
  have Hk := Lib.hid hk
  clear hk
  go_enter Tryz.func257, Tryz.ntmps257
  go_wp2_with (go_at_call 304; refine (Tryz.strings_HasSuffix _ _ _ (by omega)).mono ?_; rintro e w' ⟨rfl, hw⟩; obtain rfl := hw.symm)
  go_ret
  exact ⟨Below.refl _ _, by rw [Hk.out]; rfl⟩
 ·have hl : s.data.toList.getLast? = some 58 := by rw [hsuf, decide_eq_true_iff] at hc; exact hc
  have hpos : 0 < s.size := by
    rw [<- aP]
    cases hx : s.data.toList with
    | nil => rw [hx] at hl; cases hl
    | cons => simp
  have Hl := Lib.hid hl
  clear hsuf hl
  have hsz1 : (1 : Int) <= s.size := by omega
  have hst : (s.extract 0 (s.size - 1)).data.toList = s.data.toList.dropLast := by
    rw [lS, List.dropLast_eq_take, aP]
  have hs1 : (s.extract 0 (s.size - 1)).size <= 1048576 := by rw [ByteArray.size_extract]; omega
  obtain ⟨mm, hmm⟩ := hm
  have hspl : (Lib.splitB ⟨#[58]⟩ 0 (Lib.countB (s.extract 0 (s.size - 1)) ⟨#[58]⟩) (s.extract 0 (s.size - 1))).map (·.data.toList) = spl 58 s.data.toList.dropLast := by
    rw [Lib.splitB_data, hst]
    have h1 : Lib.countB (s.extract 0 (s.size - 1)) ⟨#[58]⟩ = s.data.toList.dropLast.count 58 := by
      rw [<- hst]; exact Lib.count_one 58 _
    rw [h1]
    exact ua 58 _
  have Hst := Lib.hid hst
  have Hspl := Lib.hid hspl
  clear hst hspl
  have hlen : Lib.countB (s.extract 0 (s.size - 1)) ⟨#[58]⟩ + 1 = (Lib.splitB ⟨#[58]⟩ 0 (Lib.countB (s.extract 0 (s.size - 1)) ⟨#[58]⟩) (s.extract 0 (s.size - 1))).length := (Lib.splitB_all ⟨#[58]⟩ (by decide) 0 _ _ rfl).symm
  have hcle := Lib.countB_le ⟨#[58]⟩ (by decide) (s.extract 0 (s.size - 1)).size _ (Nat.le_refl _)
  have hpl : (Lib.splitB ⟨#[58]⟩ 0 (Lib.countB (s.extract 0 (s.size - 1)) ⟨#[58]⟩) (s.extract 0 (s.size - 1))).length <= 1048576 := by
    rw [<- hlen]; rw [ByteArray.size_extract] at hcle; omega
  have hpsz : ∀ p ∈ (Lib.splitB ⟨#[58]⟩ 0 (Lib.countB (s.extract 0 (s.size - 1)) ⟨#[58]⟩) (s.extract 0 (s.size - 1))), p.size <= 1048576 := by
    intro p hp
    have h1 : p.data.toList ∈ spl 58 s.data.toList.dropLast := by rw [<- Hspl.out]; exact List.mem_map_of_mem (f := (·.data.toList)) hp
    have h2 := kY 58 _ _ h1
    rw [aP, List.length_dropLast, aP] at h2
    omega
  generalize hps : Lib.splitB ⟨#[58]⟩ 0 (Lib.countB (s.extract 0 (s.size - 1)) ⟨#[58]⟩) (s.extract 0 (s.size - 1)) = ps at Hspl
  go_enter Tryz.func257, Tryz.ntmps257
  go_wp2_with (go_at_call 304; refine (Tryz.strings_HasSuffix _ _ _ (by omega)).mono ?_; rintro e w' ⟨rfl, hw⟩; obtain rfl := hw.symm)
  refine (Tryz.strings_Split (s.extract 0 (s.size - 1)) ⟨#[58]⟩ mm _ (by omega) hmm (by decide)).mono ?_
  rintro e w' ⟨rfl, rfl⟩
  rw [hps]
  rw [hps] at hlen hpl hpsz
  rw [hlen]
  have hP := Lib.hid hpsz
  clear hps hlen hpsz hcle
  have hown := fe (w := w) (S := (w.heap.size <= ·)) ps 9 (by simp only [maxLen]; omega) (Nat.le_refl _)
  have hb1 : Below w.heap.size w (w.alloc (.cells (ps.map Value.string).toArray 9)) := (Below.refl _ _).alloc (Nat.le_refl _) _
  generalize w.alloc (.cells (ps.map Value.string).toArray 9) = w1 at hown hb1
  have hsee := hown.seen
  clear hmm hown
  go_wp2_with fail
  have hkw : kwL s.data.toList = if (ps.all fun p => bG p.data.toList) && decide (ps.length <= 4) then some (spl 58 s.data.toList.dropLast) else none := by
    unfold kwL
    rw [if_pos Hl.out, <- Hspl.out, List.length_map, List.all_map]; rfl
  have hpl2 : (spl 58 s.data.toList.dropLast).length = ps.length := by rw [<- Hspl.out, List.length_map]
  have Hkw := Lib.hid hkw
  have Hpl2 := Lib.hid hpl2
  clear hkw hpl2 hc hpos hsz1 hs1
  go_loopw [17] (fun i wr => ∃ k n : Nat, k <= ps.length /\ i = .int .i64 k /\ wr = w1.drewN n /\ (ps.all fun p => bG p.data.toList) = (ps.drop k).all fun p => bG p.data.toList) (fun i _ => ps.length - (intOf i).toNat)
  case atStart => exact ⟨0, 0, Nat.zero_le _, rfl, rfl, rfl⟩
  case round =>
    obtain ⟨k, n, hk, rfl, rfl, hr⟩ := hrel
    have Hr := Lib.hid hr
    clear hr
    by_cases hlt : k < ps.length
    ·obtain ⟨b, o, hA, _, hcell⟩ := hsee.str_at hlt
     simp only [Option.some.injEq, Addr.mk.injEq, and_true] at hA
     obtain ⟨rfl, rfl⟩ := hA
     rw [Nat.zero_add] at hcell
     have hsp := hP.out ps[k] (List.getElem_mem hlt)
     have hdr := List.drop_eq_getElem_cons hlt
     have Hdr := Lib.hid hdr
     clear hdr
     cases hq : bG ps[k].data.toList
     ·go_wp2_with (go_at_call 299; refine (lr ps[k] _ hsp).mono ?_; rintro e w' ⟨rfl, m, rfl⟩)
      go_ret
      refine ⟨aW hb1 _, ?_⟩
      rw [Hkw.out, Hr.out, Hdr.out, List.all_cons, hq]
      rfl
     ·go_wp2_with (go_at_call 299; refine (lr ps[k] _ hsp).mono ?_; rintro e w' ⟨rfl, m, rfl⟩)
      go_roundw
      case rel => exact ⟨k + 1, _, by omega, by go_num, rfl, by rw [Hr.out, Hdr.out, List.all_cons, hq]; rfl⟩
      case measure => simp [intOf]; omega
    ·have hall : (ps.all fun p => bG p.data.toList) = true := by rw [Hr.out, List.drop_eq_nil_of_le (by omega)]; rfl
     have Hall := Lib.hid hall
     clear hall
     by_cases h4 : (ps.length : Int) <= 4
     ·go_wp2
      go_ret
      refine ⟨aW hb1 _, ?_⟩
      rw [Hkw.out, Hall.out, decide_eq_true (by omega)]
      exact ⟨_, _, _, by rw [Hpl2.out]; rfl⟩
     ·go_wp2
      go_ret
      refine ⟨aW hb1 _, ?_⟩
      rw [Hkw.out, Hall.out, decide_eq_false (by omega)]
      rfl
theorem l6 (s : ByteArray) (w : World) (hs : s.size <= 1048576) (hm : qs w) (hk : kwL s.data.toList = none) : Calls Tryz.prog 257 #[.string s] w fun e w' => e = .returned (.slice none 0 0) /\ Below w.heap.size w w' :=
 (nk s w hs hm).mono fun e w' ⟨hb, h⟩ => by rw [hk] at h; exact ⟨h, hb⟩
theorem iD (s : ByteArray) (w : World) (hs : s.size <= 1048576) (hm : qs w) (ps : List (List UInt8)) (hk : kwL s.data.toList = some ps) : Calls Tryz.prog 257 #[.string s] w fun e w' => ∃ b o c, e = .returned (.slice (some ⟨b, o, none⟩) ps.length c) /\ Below w.heap.size w w' :=
 (nk s w hs hm).mono fun e w' ⟨hb, h⟩ => by rw [hk] at h; obtain ⟨b, o, c, h⟩ := h; exact ⟨b, o, c, h, hb⟩
theorem o5 (s : ByteArray) (w : World) (hs : s.size <= 1048576) (hm : qs w) : Calls Tryz.prog 194 #[.string s] w fun e w' => e = .returned (.bool (bY s.data.toList)) /\ Below w.heap.size w w' := by
 cases ho : ke s.data.toList
 ·cases hn : bT s.data.toList
  ·cases hk : kwL s.data.toList with
   | none =>
     have Hk := Lib.hid hk
     clear hk
     go_enter Tryz.func194, Tryz.ntmps194
     go_wp2_with (first
       | (go_at_call 256; refine (bZ s _).mono ?_; rintro e w1 ⟨rfl, hb1⟩)
       | (go_at_call 254; refine (eu s _ hs).mono ?_; rintro e w2 ⟨rfl, n2, rfl⟩)
       | (go_at_call 257; refine (l6 s _ hs (qs.below (w := w1) (hm.below hb1) (aW (Below.refl _ _) _)) Hk.out).mono ?_; rintro e w3 ⟨rfl, hb3⟩))
     go_ret
     exact ⟨br (by rw [bY, ho, hn, Hk.out]; rfl), (aW hb1 _).trans (hb3.mono hb1.size)⟩
   | some ps =>
     have Hk := Lib.hid hk
     clear hk
     go_enter Tryz.func194, Tryz.ntmps194
     go_wp2_with (first
       | (go_at_call 256; refine (bZ s _).mono ?_; rintro e w1 ⟨rfl, hb1⟩)
       | (go_at_call 254; refine (eu s _ hs).mono ?_; rintro e w2 ⟨rfl, n2, rfl⟩)
       | (go_at_call 257; refine (iD s _ hs (qs.below (w := w1) (hm.below hb1) (aW (Below.refl _ _) _)) ps Hk.out).mono ?_; rintro e w3 ⟨b, o, c, rfl, hb3⟩))
     go_ret
     exact ⟨br (by rw [bY, ho, hn, Hk.out]; rfl), (aW hb1 _).trans (hb3.mono hb1.size)⟩
  ·go_enter Tryz.func194, Tryz.ntmps194
   go_wp2_with (first
     | (go_at_call 256; refine (bZ s _).mono ?_; rintro e w1 ⟨rfl, hb1⟩)
     | (go_at_call 254; refine (eu s _ hs).mono ?_; rintro e w2 ⟨rfl, n2, rfl⟩))
   go_ret
   exact ⟨br (by rw [bY, ho, hn]; rfl), aW hb1 _⟩
 ·go_enter Tryz.func194, Tryz.ntmps194
  go_wp2_with (go_at_call 256; refine (bZ s _).mono ?_; rintro e w1 ⟨rfl, hb1⟩)
  go_ret
  exact ⟨br (by rw [bY, ho]; rfl), hb1⟩
theorem rH (s : ByteArray) (w : World) (hs : s.size <= 1048576) (hm : qs w) : Calls Tryz.prog 195 #[.string s] w fun e w' => e = .returned (.int .i64 (bQ s.data.toList)) /\ Below w.heap.size w w' := by
 cases ho : ke s.data.toList
 ·cases hn : bT s.data.toList
  ·cases hk : kwL s.data.toList with
   | none =>
     have Hk := Lib.hid hk
     clear hk
     go_enter Tryz.func195, Tryz.ntmps195
     go_wp2_with (first
       | (go_at_call 256; refine (bZ s _).mono ?_; rintro e w1 ⟨rfl, hb1⟩)
       | (go_at_call 254; refine (eu s _ hs).mono ?_; rintro e w2 ⟨rfl, n2, rfl⟩)
       | (go_at_call 257; refine (l6 s _ hs (qs.below (w := w1) (hm.below hb1) (aW (Below.refl _ _) _)) Hk.out).mono ?_; rintro e w3 ⟨rfl, hb3⟩))
     go_ret
     exact ⟨gJ (by rw [bQ, ho, hn, Hk.out]; rfl), (aW hb1 _).trans (hb3.mono hb1.size)⟩
   | some ps =>
     have Hk := Lib.hid hk
     clear hk
     go_enter Tryz.func195, Tryz.ntmps195
     go_wp2_with fail
     refine (bZ s _).mono ?_
     rintro e w1 ⟨rfl, hb1⟩
     go_wp2_with fail
     refine (eu s _ hs).mono ?_
     rintro e w2 ⟨rfl, n2, rfl⟩
     have hm2 : qs (w1.drewN n2) := qs.below (w := w1) (hm.below hb1) (aW (Below.refl _ _) _)
     go_wp2_with fail
     refine (iD s _ hs hm2 ps Hk.out).mono ?_
     rintro e w3 ⟨b, o, c, rfl, hb3⟩
     have hm3 := hm2.below hb3
     go_wp2_with fail
     refine (iD s _ hs hm3 ps Hk.out).mono ?_
     rintro e w4 ⟨b4, o4, c4, rfl, hb4⟩
     go_wp2_with fail
     go_ret
     exact ⟨gJ (by rw [bQ, ho, hn, Hk.out]; rfl), ((aW hb1 _).trans (hb3.mono hb1.size)).trans (hb4.mono (Nat.le_trans hb1.size hb3.size))⟩
  ·go_enter Tryz.func195, Tryz.ntmps195
   go_wp2_with (first
     | (go_at_call 256; refine (bZ s _).mono ?_; rintro e w1 ⟨rfl, hb1⟩)
     | (go_at_call 254; refine (eu s _ hs).mono ?_; rintro e w2 ⟨rfl, n2, rfl⟩))
   go_ret
   exact ⟨gJ (by rw [bQ, ho, hn]; rfl), aW hb1 _⟩
 ·go_enter Tryz.func195, Tryz.ntmps195
  go_wp2_with (go_at_call 256; refine (bZ s _).mono ?_; rintro e w1 ⟨rfl, hb1⟩)
  go_ret
  exact ⟨gJ (by rw [bQ, ho]; rfl), hb1⟩
theorem dY (s : ByteArray) (w : World) (hs : s.size <= 1048576) : Calls Tryz.prog 182 #[.string s] w fun e w' => e = .returned (.bool (bY s.data.toList)) /\ Below w.heap.size w w' := by
 have Hsel := Lib.hid (lJ s.data.toList)
 have Hops := Lib.hid (sr s)
 have Hwords := Lib.hid (lK s)
 go_enter Tryz.func182, Tryz.ntmps182
 cases ho : ij p6 s
 ·go_wp2_with fail
  refine (fT _).mono ?_
  rintro e w1 ⟨rfl, rfl⟩
  go_wp2_with fail
  refine (j6 _ 15 p6 s _ (fun _ => True) (fe p6 _ (by decide) trivial).seen (by decide)).mono ?_
  rintro e w1 ⟨rfl, hq⟩
  have hb1 : Below w.heap.size w w1 := by
    obtain ⟨n, rfl⟩ := hq
    exact aW ((Below.refl _ _).alloc (Nat.le_refl _) _) _
  clear hq
  go_wp2_with fail
  refine (kf s 58 w1 hs).mono ?_
  rintro e w2 ⟨ps, g, c, hps, rfl, hb2, how⟩
  have hB := hb1.trans (hb2.mono hb1.size)
  have hsee := how.seen
  have hlen : ps.length = (spl 58 s.data.toList).length := by rw [<- hps, List.length_map]
  have hpos := nV 58 s.data.toList
  rw [<- hlen] at hpos
  have Hps := Lib.hid hps
  have Hlen := Lib.hid hlen
  clear hps hlen how hb1 hb2
  have hle : ps.length <= 1048577 := by
    have := lE 58 s.data.toList
    rw [aP] at this
    have := Hlen.out
    omega
  have hcap : ps.length <= c := by simpa [lq] using hsee.1
  have hP : Hid (∀ p ∈ ps, p.size <= 1048576) := fun p hp => by
    have h1 : p.data.toList ∈ spl 58 s.data.toList := by rw [<- Hps.out]; exact List.mem_map_of_mem (f := (·.data.toList)) hp
    have h2 := kY 58 _ _ h1
    rw [aP, aP] at h2
    omega
  have hspec : jJ s.data.toList = if 1 < ps.length then (if (ps.getLast?.map (·.data.toList)) = some [] then ps.dropLast.all (fun p => bG p.data.toList) && decide (ps.length - 1 <= 4) else false) else bG s.data.toList && !gw s.data.toList := by
    unfold jJ
    rw [<- Hops.out, ho, <- Hlen.out, <- Hps.out, List.getLast?_map, <- List.map_dropLast, List.all_map]
    rfl
  have Hspec := Lib.hid hspec
  clear hspec
  by_cases h1 : (1 : Int) < ps.length
  ·obtain ⟨b, o, hA, _, hcell⟩ := hsee.str_at (k := ps.length - 1) (by omega)
   simp only [Option.some.injEq, Addr.mk.injEq, and_true] at hA
   obtain ⟨rfl, rfl⟩ := hA
   rw [Nat.zero_add] at hcell
   cases he : (ps[ps.length - 1]).toList.isEmpty
   ·have hlast : ¬ (ps.getLast?.map (·.data.toList)) = some [] := by
      rw [List.getLast?_eq_getElem?, List.getElem?_eq_getElem (by omega), Option.map_some, <- Lib.toList_data]
      intro h
      simp only [Option.some.injEq] at h
      rw [h] at he
      cases he
    have Hlast := Lib.hid hlast
    clear hlast
    go_wp2
    go_ret
    exact ⟨br (by rw [<- Hsel.out, Hspec.out, if_pos (by omega), if_neg Hlast.out]), hB⟩
   ·have hlast : (ps.getLast?.map (·.data.toList)) = some [] := by
      rw [List.getLast?_eq_getElem?, List.getElem?_eq_getElem (by omega), Option.map_some, <- Lib.toList_data]
      rw [List.isEmpty_iff.1 he]
    have Hlast := Lib.hid hlast
    have hfin : jJ s.data.toList = (ps.dropLast.all (fun p => bG p.data.toList) && decide (ps.length - 1 <= 4)) := by
      rw [Hspec.out, if_pos (by omega), if_pos hlast]
    have Hfin := Lib.hid hfin
    clear hlast hfin
    have h2 : (1 : Int) <= ps.length := by omega
    have h3 : (ps.length : Int) - 1 <= c := by omega
    have hn1 : ((ps.length : Int) == 1) = false := by simp; omega
    go_wp2_with fail
    go_loopw [5] (fun i wr => ∃ k n : Nat, k <= ps.length - 1 /\ i = .int .i64 k /\ wr = w2.drewN n /\ (ps.dropLast.all fun p => bG p.data.toList) = (ps.dropLast.drop k).all fun p => bG p.data.toList) (fun i _ => ps.length - (intOf i).toNat)
    case atStart => exact ⟨0, 0, Nat.zero_le _, rfl, rfl, rfl⟩
    case round =>
      obtain ⟨k, n, hk, rfl, rfl, hr⟩ := hrel
      have Hr := Lib.hid hr
      clear hr
      by_cases hlt : k < ps.length - 1
      ·obtain ⟨b, o, hA, _, hcellk⟩ := hsee.str_at (k := k) (by omega)
       simp only [Option.some.injEq, Addr.mk.injEq, and_true] at hA
       obtain ⟨rfl, rfl⟩ := hA
       rw [Nat.zero_add] at hcellk
       have hsp := hP.out ps[k] (List.getElem_mem (by omega))
       have hdr : ps.dropLast.drop k = ps[k] :: ps.dropLast.drop (k + 1) := by
         rw [List.drop_eq_getElem_cons (by simp; omega), List.getElem_dropLast]
       have Hdr := Lib.hid hdr
       clear hdr
       cases hq : bG ps[k].data.toList
       ·go_wp2_with (go_at_call 248; refine (eM ps[k] _ hsp).mono ?_; rintro e w' ⟨rfl, m, rfl⟩)
        go_ret
        exact ⟨br (by rw [<- Hsel.out, Hfin.out, Hr.out, Hdr.out, List.all_cons, hq]; rfl), aW hB _⟩
       ·go_wp2_with (go_at_call 248; refine (eM ps[k] _ hsp).mono ?_; rintro e w' ⟨rfl, m, rfl⟩)
        go_roundw
        case rel => exact ⟨k + 1, _, by omega, by go_num, rfl, by rw [Hr.out, Hdr.out, List.all_cons, hq]; rfl⟩
        case measure => simp [intOf]; omega
      ·have hall : (ps.dropLast.all fun p => bG p.data.toList) = true := by rw [Hr.out, List.drop_eq_nil_of_le (by simp; omega)]; rfl
       have Hall := Lib.hid hall
       clear hall
       go_wp2
       go_ret
       exact ⟨br (by rw [<- Hsel.out, Hfin.out, Hall.out, Bool.true_and, decide_eq_decide]; omega), aW hB _⟩
  ·have hone : ps.length = 1 := by omega
   obtain ⟨p, rfl⟩ := List.length_eq_one_iff.1 hone
   have hp : p = s := by
     have h2 := Hps.out
     have h3 := vz 58 s.data.toList (by rw [<- Hlen.out]; rfl)
     rw [h3] at h2
     simp only [List.map_cons, List.map_nil, List.cons.injEq, and_true] at h2
     exact ja h2
   subst hp
   have hfin : jJ p.data.toList = (bG p.data.toList && !gw p.data.toList) := by rw [Hspec.out, if_neg (by simp)]
   have Hfin := Lib.hid hfin
   obtain ⟨b, o, hA, _, hcell⟩ := hsee.str_at (k := 0) (by simp)
   simp only [Option.some.injEq, Addr.mk.injEq, and_true, List.getElem_cons_zero] at hA hcell
   obtain ⟨rfl, rfl⟩ := hA
   rw [Nat.zero_add] at hcell
   clear hfin hone h1 hpos hle
   go_wp2_with fail
   go_loopw [5] (fun i wr => ∃ k : Nat, k <= 1 /\ i = .int .i64 k /\ Below w.heap.size w wr /\ wr.cell? ⟨g, 0, none⟩ = some (.string p) /\ (k = 0 \/ bT p.data.toList = true)) (fun i _ => 1 - (intOf i).toNat)
   case atStart => exact ⟨0, by omega, rfl, hB, hcell, .inl rfl⟩
   case round =>
     obtain ⟨k, hk, rfl, hbr, hc, hr⟩ := hrel
     by_cases hlt : k < 1
     ·obtain rfl : k = 0 := by omega
      have hgr : g < wr.heap.size := World.block_lt_of_cell? wr _ hc
      clear hr
      cases hq : bG p.data.toList
      ·go_wp2_with (go_at_call 248; refine (eM p _ hs).mono ?_; rintro e w' ⟨rfl, m, rfl⟩)
       go_ret
       exact ⟨br (by rw [<- Hsel.out, Hfin.out, hq]; rfl), aW hbr _⟩
      ·go_wp2_with fail
       refine (eM p _ hs).mono ?_
       rintro e w3 ⟨rfl, hq3⟩
       have hb3 := wc hq3
       have hbr3 := hbr.trans (hb3.mono hbr.size)
       have hc3 := (hb3.cell (p := ⟨g, 0, none⟩) hgr).trans hc
       clear hq3 hb3 hc
       go_wp2_with fail
       refine (wa _).mono ?_
       rintro e w4 ⟨rfl, rfl⟩
       go_wp2_with fail
       refine (j6 _ 7 eO p _ (fun _ => True) (fe eO _ (by decide) trivial).seen (by decide)).mono ?_
       rintro e w5 ⟨rfl, n5, rfl⟩
       have hb5 : Below w.heap.size w ((w3.alloc (.cells (eO.map Value.string).toArray 9)).drewN n5) := aW (hbr3.alloc hbr3.size _) _
       have hc5 : ((w3.alloc (.cells (eO.map Value.string).toArray 9)).drewN n5).cell? ⟨g, 0, none⟩ = some (.string p) := by
         show (w3.alloc _).cell? _ = _
         rw [World.cell?_alloc_lt w3 _ _ (World.block_lt_of_cell? w3 _ hc3)]; exact hc3
       generalize (w3.alloc (.cells (eO.map Value.string).toArray 9)).drewN n5 = w6 at hb5 hc5
       cases hw : ij eO p
       ·go_wp2_with fail
        go_roundw
        case rel => exact ⟨1, by omega, rfl, hb5, hc5, .inr (by rw [bT, hq, <- Hwords.out, hw]; rfl)⟩
        case measure => simp [intOf]
       ·go_wp2_with fail
        go_ret
        exact ⟨br (by rw [<- Hsel.out, Hfin.out, hq, <- Hwords.out, hw]; rfl), hb5⟩
     ·obtain rfl : k = 1 := by omega
      have hn : bT p.data.toList = true := by
        rcases hr with h | h
        ·cases h
        ·exact h
      have Hn := Lib.hid hn
      clear hr hn
      go_wp2_with fail
      go_ret
      exact ⟨br (by rw [<- Hsel.out, Hfin.out]; exact Hn.out.symm), hbr⟩
 ·go_wp2_with fail
  refine (fT _).mono ?_
  rintro e w1 ⟨rfl, rfl⟩
  go_wp2_with fail
  refine (j6 _ 15 p6 s _ (fun _ => True) (fe p6 _ (by decide) trivial).seen (by decide)).mono ?_
  rintro e w1 ⟨rfl, hq⟩
  have hb1 : Below w.heap.size w w1 := by
    obtain ⟨n, rfl⟩ := hq
    exact aW ((Below.refl _ _).alloc (Nat.le_refl _) _) _
  go_wp2
  go_ret
  exact ⟨br (by rw [bY, <- Hops.out, ho]; rfl), hb1⟩
theorem lh (s : ByteArray) (w : World) (hs : s.size <= 1048576) : Calls Tryz.prog 242 #[.string s] w fun e w' => e = .returned (.int .i64 (bQ s.data.toList)) /\ Below w.heap.size w w' := by
 have Hargs := Lib.hid (vi s.data.toList)
 have Hsel := Lib.hid (lJ s.data.toList)
 have Hops := Lib.hid (sr s)
 cases hq : bY s.data.toList
 ·go_enter Tryz.func242, Tryz.ntmps242
  go_wp2_with fail
  refine (dY s w hs).mono ?_
  rintro e w1 ⟨rfl, hb1⟩
  go_wp2_with fail
  go_ret
  exact ⟨gJ (by rw [<- Hargs.out, kb, Hsel.out, hq]; rfl), hb1⟩
 ·cases ho : ij p6 s
  all_goals
    go_enter Tryz.func242, Tryz.ntmps242
    go_wp2_with fail
    refine (dY s w hs).mono ?_
    rintro e w1 ⟨rfl, hb1⟩
    go_wp2_with fail
    refine (fT _).mono ?_
    rintro e w2 ⟨rfl, rfl⟩
    go_wp2_with fail
    refine (j6 _ 15 p6 s _ (fun _ => True) (fe p6 _ (by decide) trivial).seen (by decide)).mono ?_
    rintro e w3 ⟨rfl, hq3⟩
    have hb3 : Below w.heap.size w w3 := by
      obtain ⟨n, rfl⟩ := hq3
      exact aW (hb1.alloc hb1.size _) _
    go_wp2_with fail
  ·refine (kf s 58 w3 hs).mono ?_
   rintro e w4 ⟨ps, g, c, hps, rfl, hb4, how⟩
   have hlen : ps.length = (spl 58 s.data.toList).length := by rw [<- hps, List.length_map]
   have hl2 := lE 58 s.data.toList
   rw [aP, <- hlen] at hl2
   have Hlen := Lib.hid hlen
   have hps' := Lib.hid hps
   clear hlen hps
   go_wp2_with fail
   go_ret
   exact ⟨gJ (by rw [<- Hargs.out, kb, Hsel.out, hq, <- Hops.out, ho, <- Hlen.out]; rfl), hb3.trans (hb4.mono hb3.size)⟩
  ·go_ret
   exact ⟨gJ (by rw [<- Hargs.out, kb, Hsel.out, hq, <- Hops.out, ho]; rfl), hb3⟩
end Go.Proofs.YtofnnnpahglfdaaGreatDoor
