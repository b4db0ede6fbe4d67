/- Part 6 of the proof. -/
import Derived.Test.YtiihihgjiklnoaaGreatDoorRd1
import Derived.Test.YtiihihgjiklnoaaGreatDoorRd2
import Derived.Deep.RegionLaw
set_option maxHeartbeats 800000
namespace Go.Proofs.YtiihihgjiklnoaaGreatDoor
open Go Go.RowKit
def pe (w : World) : Prop := ∃ m : Int, w.cell? ⟨0, 0, none⟩ = some (.int .i64 m)
theorem pe.below {w w' : World} (h : pe w) (hb : Below w.heap.size w w') : pe w' := by
 obtain ⟨m, hm⟩ := h
 exact ⟨m, (hb.cell (World.block_lt_of_cell? w _ hm)).trans hm⟩
theorem Tryz.infoStr : (Tryz.prog.info? 9).map (fun i => (i.zero, i.size, i.bytes)) = some (some (.string ByteArray.empty), 1, 16) := by kernel_rfl
def jB (l : List ByteArray) : List PT := l.map PT.str
theorem rO (l : List ByteArray) : (jB l).length = l.length := by simp [jB]
theorem q7 (a b : List ByteArray) : jB (a ++ b) = jB a ++ jB b := by simp [jB]
theorem iB (l : List ByteArray) : PT.cellsL (jB l) = l.map Value.string := by
 induction l with
 | nil => rfl
 | cons z r ih => simp only [jB, List.map_cons, PT.cellsL, PT.cells] at *; rw [ih]; rfl
theorem j7 (l : List ByteArray) : PT.blocksL (jB l) = [] := by
 induction l with
 | nil => rfl
 | cons z r ih => simp only [jB, List.map_cons, PT.blocksL, PT.blocks] at *; rw [ih]; rfl
theorem ut (l : List ByteArray) : ∀ t ∈ jB l, t.cells.length = 1 := fun t ht => by
 simp only [jB, List.mem_map] at ht; obtain ⟨z, _, rfl⟩ := ht; rfl
theorem wL (w : World) (l : List ByteArray) : gC w (jB l) := gC.of_get fun t ht => by
 simp only [jB, List.mem_map] at ht; obtain ⟨z, _, rfl⟩ := ht; trivial
theorem de.str_at {w : World} {S : Nat -> Prop} {A : Option Addr} {c : Nat} {l : List ByteArray} (h : de w S (.sl A c 1 (jB l))) {k : Nat} (hk : k < l.length) :
   ∃ b o, A = some ⟨b, o, none⟩ /\ S b /\ w.cell? ⟨b, o + k, none⟩ = some (.string (l[k]'hk)) := by
 have h1 := h.2.2.1
 rw [iB] at h1
 exact h1 k _ (by simp [hk])
theorem ei {w : World} {S : Nat -> Prop} (l : List ByteArray) (e : TypeId) (hl : l.length <= maxLen) (hS : S w.heap.size) : bQ (w.alloc (.cells (l.map Value.string).toArray e)) S (.sl (some ⟨w.heap.size, 0, none⟩) l.length 1 (jB l)) :=
 ⟨dX (ut l) (by rw [iB]; simp [jB]) (heap_alloc_new w _) (by simp [jB]) hl (by simp) (by rw [iB]; simp [jB, List.take_of_length_le]) (wL _ _), by simp [PT.blocks, j7, PT.rowOf],
   by simpa [PT.blocks, j7, PT.rowOf] using hS⟩
def d7 : List ByteArray := zl.map fun l => ⟨l.toArray⟩
def nq : List ByteArray := ops.map fun l => ⟨l.toArray⟩
def ig (l : List ByteArray) (s : ByteArray) : Bool := l.any fun x => x.toList == s.toList
theorem jP (s : ByteArray) : ig d7 s = fE s.data.toList := by
 rw [Bool.eq_iff_iff]
 simp only [ig, d7, fE, List.any_map, List.any_eq_true, Function.comp, List.contains_iff_mem, beq_iff_eq, Lib.toList_data]
 exact ⟨fun ⟨x, h1, h2⟩ => by rw [<- h2]; exact h1, fun h => ⟨_, h, rfl⟩⟩
theorem nU (s : ByteArray) : ig nq s = jD s.data.toList := by
 rw [Bool.eq_iff_iff]
 simp only [ig, nq, jD, List.any_map, List.any_eq_true, Function.comp, List.contains_iff_mem, beq_iff_eq, Lib.toList_data]
 exact ⟨fun ⟨x, h1, h2⟩ => by rw [<- h2]; exact h1, fun h => ⟨_, h, rfl⟩⟩
theorem tK (s : ByteArray) (w : World) : Calls Tryz.prog 265 #[.string s] w fun e w' => e = .returned (.bool (fE s.data.toList)) /\ w = w' := by
 have hL := Lib.toList_data s
 have hd : fE s.data.toList = ig d7 s := (jP s).symm
 have Hd := Lib.hid hd
 have HL := Lib.hid hL
 clear hd hL
 go_enter Tryz.func265, Tryz.ntmps265
 go_wp2
 all_goals (go_ret; exact ⟨ba (by have := HL.out; simp_all [fE, zl]), rfl⟩)
theorem iP (A : Option Addr) (c : Nat) (l : List ByteArray) (s : ByteArray) (w : World) (S : Nat -> Prop) (hs : de w S (.sl A c 1 (jB l))) (hn : l.length <= 1048576) :
   Calls Tryz.prog 202 #[.slice A l.length c, .string s] w fun e w' => e = .returned (.bool (ig l s)) /\ ∃ n, w' = w.drewN n := by
 go_enter Tryz.func202, Tryz.ntmps202
 go_wp2
 go_loopw [5] (fun i wr => ∃ k n : Nat, k <= l.length /\ i = .int .i64 k /\ wr = w.drewN n /\ ig l s = ig (l.drop k) s) (fun i _ => l.length - (intOf i).toNat)
 case atStart => exact ⟨0, 0, Nat.zero_le _, rfl, rfl, rfl⟩
 case round =>
   obtain ⟨k, n, hk, rfl, rfl, hr⟩ := hrel
   have Hr := Lib.hid hr
   clear hr
   by_cases hlt : k < l.length
   ·obtain ⟨b, o, rfl, _, hcell⟩ := hs.str_at hlt
    have hd : ig (l.drop k) s = (l[k].toList == s.toList || ig (l.drop (k + 1)) s) := by rw [List.drop_eq_getElem_cons hlt]; rfl
    have Hd := Lib.hid hd
    clear hd hs
    cases hq : l[k].toList == s.toList
    all_goals
      go_wp2
      first
        | (
            go_roundw
            case rel => exact ⟨k + 1, n, by omega, by go_num, rfl, by rw [Hr.out, Hd.out, hq]; rfl⟩
            case measure => simp [intOf]; omega)
        | (
            go_ret
            exact ⟨ba (by rw [Hr.out, Hd.out, hq]; rfl), n, rfl⟩)
   ·go_wp2
    go_ret
    exact ⟨ba (by rw [Hr.out, List.drop_eq_nil_of_le (by omega)]; rfl), n, rfl⟩
theorem rq (w : World) : Calls Tryz.prog 256 #[] w fun e w' => e = .returned (.slice (some ⟨w.heap.size, 0, none⟩) 7 7) /\ w.alloc (.cells (d7.map Value.string).toArray 9) = w' := by
 go_enter Tryz.func256, Tryz.ntmps256
 go_wp2
 go_ret
 exact ⟨rfl, rfl⟩
theorem e9 (w : World) : Calls Tryz.prog 257 #[] w fun e w' => e = .returned (.slice (some ⟨w.heap.size, 0, none⟩) 15 15) /\ w.alloc (.cells (nq.map Value.string).toArray 9) = w' := by
 go_enter Tryz.func257, Tryz.ntmps257
 go_wp2
 go_ret
 exact ⟨rfl, rfl⟩
theorem oI (w : World) : Calls Tryz.prog 268 #[] w fun e w' => e = .returned (.slice (some ⟨w.heap.size, 0, none⟩) 15 15) /\ w.alloc (.cells (nq.map Value.string).toArray 9) = w' := by
 go_enter Tryz.func268, Tryz.ntmps268
 go_wp2
 go_ret
 exact ⟨rfl, rfl⟩
def dt (s : ByteArray) (l : List ByteArray) : ByteArray := (l.find? fun x => Lib.hasPrefix s.data.toList x.data.toList).getD ByteArray.empty
theorem sa (A : Option Addr) (c : Nat) (l : List ByteArray) (s : ByteArray) (w : World) (S : Nat -> Prop) (hs : de w S (.sl A c 1 (jB l))) (hn : l.length <= 1048576) :
   Calls Tryz.prog 267 #[.string s, .slice A l.length c] w fun e w' => e = .returned (.string (dt s l)) /\ ∃ n, w' = w.drewN n := by
 go_enter Tryz.func267, Tryz.ntmps267
 go_wp2
 go_loopw [9] (fun i wr => ∃ k n : Nat, k <= l.length /\ i = .int .i64 k /\ wr = w.drewN n /\ dt s l = dt s (l.drop k)) (fun i _ => l.length - (intOf i).toNat)
 case atStart => exact ⟨0, 0, Nat.zero_le _, rfl, rfl, rfl⟩
 case round =>
   obtain ⟨k, n, hk, rfl, rfl, hr⟩ := hrel
   have Hr := Lib.hid hr
   clear hr
   by_cases hlt : k < l.length
   ·obtain ⟨b, o, rfl, _, hcell⟩ := hs.str_at hlt
    have hd : dt s (l.drop k) = if Lib.hasPrefix s.data.toList l[k].data.toList then l[k] else dt s (l.drop (k + 1)) := by
      rw [List.drop_eq_getElem_cons hlt]
      simp only [dt, List.find?_cons]
      split <;> simp_all
    have Hd := Lib.hid hd
    clear hd hs
    cases hq : Lib.hasPrefix s.data.toList l[k].data.toList
    all_goals
      go_wp2_with (go_at_call 287; refine (Tryz.strings_HasPrefix _ _ _).mono ?_; rintro e w' ⟨rfl, rfl⟩)
      first
        | (
            go_roundw
            case rel => exact ⟨k + 1, n, by omega, by go_num, rfl, by rw [Hr.out, Hd.out, hq]; rfl⟩
            case measure => simp [intOf]; omega)
        | (
            go_ret
            exact ⟨ol (by rw [Hr.out, Hd.out, hq]; rfl), n, rfl⟩)
   ·go_wp2
    go_ret
    exact ⟨ol (by rw [Hr.out, List.drop_eq_nil_of_le (by omega)]; rfl), n, rfl⟩
theorem pE (s : ByteArray) (l : List ByteArray) (h : dt s l = s) (hs : s.data.toList ≠ []) : s ∈ l := by
 unfold dt at h
 cases hf : l.find? (fun x => Lib.hasPrefix s.data.toList x.data.toList) with
 | none => rw [hf] at h; simp only [Option.getD_none] at h; rw [<- h] at hs; exact absurd rfl hs
 | some x => rw [hf] at h; simp only [Option.getD_some] at h; subst h; exact List.mem_of_find?_eq_some hf
theorem pR : ∀ l ∈ nq, ((dt l nq).toList == l.toList) = true /\ l.toList ≠ [] := by decide +kernel
theorem aaa (s : ByteArray) : (!s.toList.isEmpty && (dt s nq).toList == s.toList) = jD s.data.toList := by
 rw [<- nU, Bool.eq_iff_iff]
 constructor
 ·intro h
  simp only [Bool.and_eq_true, Bool.not_eq_true', beq_iff_eq] at h
  have h1 : dt s nq = s := oh (by rw [<- Lib.toList_data, <- Lib.toList_data]; exact h.2)
  have h2 : s ∈ nq := pE s nq h1 (by intro e; rw [<- Lib.toList_data] at e; rw [e] at h; simp at h)
  simp only [ig, List.any_eq_true]
  exact ⟨s, h2, by simp⟩
 ·intro h
  simp only [ig, List.any_eq_true] at h
  obtain ⟨x, hx, he⟩ := h
  have e : x = s := oh (by rw [<- Lib.toList_data, <- Lib.toList_data]; exact beq_iff_eq.1 he)
  subst e
  obtain ⟨h1, h2⟩ := pR x hx
  rw [h1]
  cases hx : x.toList with
  | nil => exact absurd hx h2
  | cons => rfl
theorem bN (s : ByteArray) (w : World) : Calls Tryz.prog 213 #[.string s] w fun e w' => e = .returned (.bool (jD s.data.toList)) /\ Below w.heap.size w w' := by
 have Hq := Lib.hid (aaa s)
 cases hn : s.toList.isEmpty
 all_goals
   go_enter Tryz.func213, Tryz.ntmps213
   go_wp2_with (first
     | (go_at_call 268; refine (oI _).mono ?_; rintro e w' ⟨rfl, rfl⟩)
     | (go_at_call 267; refine (sa _ 15 nq s _ (fun _ => True) (ei nq _ (by decide) trivial).seen (by decide)).mono ?_; rintro e w' ⟨rfl, n, rfl⟩))
   go_ret
   first
     | exact ⟨ba (by rw [<- Hq.out, hn]; rfl), Below.refl _ _⟩
     | exact ⟨ba (by rw [<- Hq.out, hn]; rfl), aQ ((Below.refl _ _).alloc (Nat.le_refl _) _) _⟩
theorem dG (s : ByteArray) (w : World) (hs : s.size <= 1048576) : Calls Tryz.prog 211 #[.string s] w fun e w' => e = .returned (.bool (bT s.data.toList)) /\ ∃ n, w' = w.drewN n := by
 cases hp : bw s.data.toList
 all_goals
   go_enter Tryz.func211, Tryz.ntmps211
   go_wp2_with (first
     | (go_at_call 264; refine (jJ s _ hs).mono ?_; rintro e w' ⟨rfl, n, rfl⟩)
     | (go_at_call 265; refine (tK s _).mono ?_; rintro e w' ⟨rfl, rfl⟩))
   go_ret
   exact ⟨ba (by rw [bT, hp]; simp), n, rfl⟩
theorem ea (s : ByteArray) (w : World) (hs : s.size <= 1048576) : Calls Tryz.prog 255 #[.string s] w fun e w' => e = .returned (.bool (bw s.data.toList)) /\ ∃ n, w' = w.drewN n := by
 by_cases h1 : 1 <= (s.size : Int)
 ·have h0 : 0 < s.size := by omega
  have Hf := Lib.hid (gm s h0)
  have Hr := Lib.hid (jz s.data.toList)
  have hr : dF s.data.toList <= s.size := by have := kX s.data.toList; rw [br] at this; exact this
  by_cases h2 : (s.size : Int) <= 20
  all_goals cases hl : ex s[0]
  all_goals
    go_enter Tryz.func255, Tryz.ntmps255
    go_wp2_with (first
      | (go_at_call 283; refine (j4 s[0] _).mono ?_; rintro e w' ⟨rfl, rfl⟩)
      | (go_at_call 284; refine (vx s 0 _ hs (by omega)).mono ?_; rintro e w' ⟨rfl, n, rfl⟩))
    go_ret
    first
      | exact ⟨ba (by rw [Hf.out, hl, decide_eq_false (by omega)]; rfl), 0, rfl⟩
      | exact ⟨ba (by rw [Hf.out, hl]; simp), 0, rfl⟩
      | (
          refine ⟨ba ?_, n, rfl⟩
          rw [Hf.out, hl, decide_eq_true (show s.size <= 20 by omega)]
          have hx := Hr.out
          rw [br] at hx
          rw [Bool.eq_iff_iff]
          simp only [Bool.true_and, <- hx]
          simp
          try omega)
 ·go_enter Tryz.func255, Tryz.ntmps255
  go_wp2
  go_ret
  exact ⟨ba (lp s (by omega)).symm, 0, rfl⟩
theorem fk {ops : Array Oper} {rest : List Oper} {o : Oper} {a : Act} {Q : Exit -> Act -> World -> Prop} {w : World} (hgd : o.guard = none) (s x : Operand)
   (ho : o.op = .call { callee := .builtin .append, args := #[s, x], argTypes := #[34, 34] }) {S : Nat -> Prop} (A : Option Addr) (c n : Nat) (l : List ByteArray) (v : ByteArray)
   (hs : a.eval s = .slice A n c) (hx : a.eval x = .slice (some ⟨w.heap.size, 0, none⟩) 1 1) (hown : bQ w S (.sl A c 1 (jB l))) (hn : n = l.length) (hS : S (w.heap.size + 1)) (hl : n <= 1000000000)
   (h : ∀ A' c' w', bQ w' S (.sl A' c' 1 (jB (l ++ [v]))) -> cW (· ∈ PT.rowOf A) w w' -> (∀ g, A = some ⟨g, 0, none⟩ -> ∃ g', A' = some ⟨g', 0, none⟩) -> wpList Tryz.prog ops Q rest (a.put o.dst (.slice A' (n + 1) c')) w') :
   wpList Tryz.prog ops Q (o :: rest) a (w.alloc (.cells #[.string v] 9)) :=
 jw hgd s x 34 9 (.string ByteArray.empty) 1 16 ho Tryz.underlying34 Tryz.infoStr rfl (by omega) A c n (jB l) (.str v) hs hx hown (by rw [rO]; exact hn) rfl trivial rfl hS hl (by omega)
   fun A' c' w' h1 h2 h3 => h A' c' w' (by rw [q7]; exact h1) h2 h3
theorem je (s : ByteArray) (b : UInt8) (w : World) (hs : s.size <= 1048576) : Calls Tryz.prog 258 #[.string s, .int .u8 (b.toNat : Int)] w fun e w' => ∃ (ps : List ByteArray) (g c : Nat), ps.map (·.data.toList) = spl b s.data.toList /\ e = .returned (.slice (some ⟨g, 0, none⟩) ps.length c) /\ Below w.heap.size w w' /\ bQ w' (w.heap.size <= ·) (.sl (some ⟨g, 0, none⟩) c 1 (jB ps)) := by
 go_enter Tryz.func258, Tryz.ntmps258
 go_wp2
 go_loopw [5, 6, 7] (fun ov fv iv wr => ∃ (k f m g c : Nat) (ps : List ByteArray), k <= s.size + 1 /\ iv = .int .i64 k /\ fv = .int .i64 f /\ f <= k /\ m <= k /\ ps.length = m /\ ov = .slice (some ⟨g, 0, none⟩) m c /\ Below w.heap.size w wr /\ bQ wr (w.heap.size <= ·) (.sl (some ⟨g, 0, none⟩) c 1 (jB ps)) /\
   (if k <= s.size then ps.map (·.data.toList) ++ yQ ((s.data.toList.take k).drop f) (spl b (s.data.toList.drop k)) else ps.map (·.data.toList)) = spl b s.data.toList) (fun _ _ iv _ => s.size + 1 - (intOf iv).toNat)
 case atStart => exact ⟨0, 0, 0, _, _, [], Nat.zero_le _, rfl, rfl, Nat.le_refl _, Nat.le_refl _, rfl, rfl, (Below.refl _ _).alloc (Nat.le_refl _) _, tL _ _ (Nat.le_refl _), by simp [sM]⟩
 case round =>
   obtain ⟨k, f, m, g, c, ps, hk, rfl, rfl, hf, hm, hl, rfl, hb, ho, hr⟩ := hrel
   have Hr := Lib.hid hr
   have Hl := Lib.hid hl
   clear hr hl
   have hg : w.heap.size <= g := ho.2.2 g (by simp [PT.blocks, PT.rowOf])
   have hsz := hb.size
   by_cases hlt : k <= s.size
   ·by_cases hend : k = s.size
    ·have he : ((k : Int) == (s.size : Int)) = true := by simp [hend]
     have Hend := Lib.hid hend
     clear hend
     go_wp2_with (at_builtin; refine fk rfl (.tmp 26) (.tmp 31) rfl (S := (w.heap.size <= ·)) (some ⟨g, 0, none⟩) c m ps (s.extract f k) rfl rfl ho Hl.out.symm (by omega) (by omega) ?_; intro A5 c5 w5 ho5 ht5 hA5)
     obtain ⟨g5, rfl⟩ := hA5 g rfl
     have hb5 := hb.trans (ht5.below (B := w.heap.size) hb.size (fun b h => by simp [PT.rowOf] at h; omega))
     clear ho hb ht5
     go_roundw
     case rel =>
       refine ⟨k + 1, k + 1, m + 1, g5, c5, ps ++ [s.extract f k], by omega, by go_num, by go_num, Nat.le_refl _, by omega, by simp [Hl.out], rfl, hb5, ho5, ?_⟩
       have h1 := Hr.out
       have h2 := Hend.out
       rw [if_pos hlt] at h1
       have h5 : s.data.toList.drop s.size = [] := List.drop_eq_nil_of_le (by rw [br]; omega)
       rw [if_neg (by omega), <- h1, h2, h5]
       simp only [spl, yQ, List.headD_cons, List.append_nil, List.tail_cons, List.map_append, List.map_cons, List.map_nil]
       rw [Lib.extract_data, <- List.drop_take]
     case measure => simp [intOf]; omega
    ·have he : ((k : Int) == (s.size : Int)) = false := by simp; omega
     have hks : k < s.size := by omega
     have hdr := lB s hks
     have Hdr := Lib.hid hdr
     clear hdr
     cases hq : ((s[k].toNat : Int) == (b.toNat : Int))
     ·go_wp2
      go_roundw
      case rel =>
        refine ⟨k + 1, f, m, g, c, ps, by omega, by go_num, rfl, by omega, by omega, Hl.out, rfl, hb, ho, ?_⟩
        have h1 := Hr.out
        rw [if_pos hlt, Hdr.out, vg _ _ _ _ (fun e => by simp [e] at hq)] at h1
        rw [if_pos (by omega), <- h1]
        have h3 : (s.data.toList.take (k + 1)).drop f = (s.data.toList.take k).drop f ++ [s[k]] := by
          rw [List.take_add_one, List.getElem?_eq_getElem (by rw [br]; exact hks), List.drop_append_of_le_length (by rw [List.length_take, br]; omega)]
          rfl
        rw [h3]
      case measure => simp [intOf]; omega
     ·go_wp2_with (at_builtin; refine fk rfl (.tmp 26) (.tmp 31) rfl (S := (w.heap.size <= ·)) (some ⟨g, 0, none⟩) c m ps (s.extract f k) rfl rfl ho Hl.out.symm (by omega) (by omega) ?_; intro A5 c5 w5 ho5 ht5 hA5)
      obtain ⟨g5, rfl⟩ := hA5 g rfl
      have hb5 := hb.trans (ht5.below (B := w.heap.size) hb.size (fun b h => by simp [PT.rowOf] at h; omega))
      clear ho hb ht5
      go_roundw
      case rel =>
        refine ⟨k + 1, k + 1, m + 1, g5, c5, ps ++ [s.extract f k], by omega, by go_num, by go_num, Nat.le_refl _, by omega, by simp [Hl.out], rfl, hb5, ho5, ?_⟩
        have h1 := Hr.out
        have hbb : s[k] = b := by
          have : (s[k].toNat : Int) = (b.toNat : Int) := beq_iff_eq.1 hq
          exact UInt8.toNat_inj.1 (by omega)
        rw [if_pos hlt, Hdr.out, hbb, xH] at h1
        have h4 : ((s.data.toList.take (k + 1)).drop (k + 1)) = [] := List.drop_eq_nil_of_le (by rw [List.length_take]; omega)
        rw [if_pos (by omega), h4, sM, <- h1]
        simp only [List.map_append, List.map_cons, List.map_nil, List.append_assoc, List.singleton_append]
        rw [Lib.extract_data, <- List.drop_take]
      case measure => simp [intOf]; omega
   ·go_wp2
    go_ret
    refine ⟨ps, g, c, ?_, by rw [Hl.out]; rfl, hb, ho⟩
    have := Hr.out
    rw [if_neg hlt] at this
    exact this
def zP (l : List UInt8) (w w' : World) (e : Ending) : Prop :=
 Below w.heap.size w w' /\ match kwL l with
   | some ps => ∃ b o c, e = .returned (.slice (some ⟨b, o, none⟩) ps.length c)
   | none => e = .returned (.slice none 0 0)
theorem pF (s : ByteArray) : Lib.hasSuffix s.data.toList [58] = decide (s.data.toList.getLast? = some 58) := by
 rw [Bool.eq_iff_iff, decide_eq_true_iff]
 simp only [Lib.hasSuffix, List.isSuffixOf_iff_suffix, List.getLast?_eq_some_iff]
 exact ⟨fun ⟨t, h⟩ => ⟨t, h.symm⟩, fun ⟨t, h⟩ => ⟨t, h.symm⟩⟩
theorem lr (s : ByteArray) (w : World) (hs : s.size <= 1048576) (hm : pe w) : Calls Tryz.prog 214 #[.string s] w fun e w' => zP s.data.toList w w' e := by
 have hsuf := pF s
 cases hc : Lib.hasSuffix s.data.toList [58]
 ·have hk : kwL s.data.toList = none := by
    rw [hsuf, decide_eq_false_iff_not] at hc
    unfold kwL; rw [if_neg hc]
  clear hsuf
  have Hk := Lib.hid hk
  clear hk
  go_enter Tryz.func214, Tryz.ntmps214
  go_wp2_with (go_at_call 269; refine (Tryz.strings_HasSuffix _ _ _ (by omega)).mono ?_; rintro e w' ⟨rfl, hw⟩; obtain rfl := hw.symm)
  go_ret
  exact ⟨Below.refl _ _, by rw [Hk.out]; rfl⟩
 ·have hl : s.data.toList.getLast? = some 58 := by rw [hsuf, decide_eq_true_iff] at hc; exact hc
  have hpos : 0 < s.size := by
    rw [<- br]
    cases hx : s.data.toList with
    | nil => rw [hx] at hl; cases hl
    | cons => simp
  have Hl := Lib.hid hl
  clear hsuf hl
  have hsz1 : (1 : Int) <= s.size := by omega
  have hst : (s.extract 0 (s.size - 1)).data.toList = s.data.toList.dropLast := by
    rw [j5, List.dropLast_eq_take, br]
  have hs1 : (s.extract 0 (s.size - 1)).size <= 1048576 := by rw [ByteArray.size_extract]; omega
  obtain ⟨mm, hmm⟩ := hm
  have hspl : (Lib.splitB ⟨#[58]⟩ 0 (Lib.countB (s.extract 0 (s.size - 1)) ⟨#[58]⟩) (s.extract 0 (s.size - 1))).map (·.data.toList) = spl 58 s.data.toList.dropLast := by
    rw [Lib.splitB_data, hst]
    have h1 : Lib.countB (s.extract 0 (s.size - 1)) ⟨#[58]⟩ = s.data.toList.dropLast.count 58 := by
      rw [<- hst]; exact Lib.count_one 58 _
    rw [h1]
    exact pS 58 _
  have Hst := Lib.hid hst
  have Hspl := Lib.hid hspl
  clear hst hspl
  have hlen : Lib.countB (s.extract 0 (s.size - 1)) ⟨#[58]⟩ + 1 = (Lib.splitB ⟨#[58]⟩ 0 (Lib.countB (s.extract 0 (s.size - 1)) ⟨#[58]⟩) (s.extract 0 (s.size - 1))).length := (Lib.splitB_all ⟨#[58]⟩ (by decide) 0 _ _ rfl).symm
  have hcle := Lib.countB_le ⟨#[58]⟩ (by decide) (s.extract 0 (s.size - 1)).size _ (Nat.le_refl _)
  have hpl : (Lib.splitB ⟨#[58]⟩ 0 (Lib.countB (s.extract 0 (s.size - 1)) ⟨#[58]⟩) (s.extract 0 (s.size - 1))).length <= 1048576 := by
    rw [<- hlen]; rw [ByteArray.size_extract] at hcle; omega
  have hpsz : ∀ p ∈ (Lib.splitB ⟨#[58]⟩ 0 (Lib.countB (s.extract 0 (s.size - 1)) ⟨#[58]⟩) (s.extract 0 (s.size - 1))), p.size <= 1048576 := by
    intro p hp
    have h1 : p.data.toList ∈ spl 58 s.data.toList.dropLast := by rw [<- Hspl.out]; exact List.mem_map_of_mem (f := (·.data.toList)) hp
    have h2 := ja 58 _ _ h1
    rw [br, List.length_dropLast, br] at h2
    omega
  generalize hps : Lib.splitB ⟨#[58]⟩ 0 (Lib.countB (s.extract 0 (s.size - 1)) ⟨#[58]⟩) (s.extract 0 (s.size - 1)) = ps at Hspl
  go_enter Tryz.func214, Tryz.ntmps214
  go_wp2_with (go_at_call 269; refine (Tryz.strings_HasSuffix _ _ _ (by omega)).mono ?_; rintro e w' ⟨rfl, hw⟩; obtain rfl := hw.symm)
  refine (Tryz.strings_Split (s.extract 0 (s.size - 1)) ⟨#[58]⟩ mm _ (by omega) hmm (by decide)).mono ?_
  rintro e w' ⟨rfl, rfl⟩
  rw [hps]
  rw [hps] at hlen hpl hpsz
  rw [hlen]
  have hP := Lib.hid hpsz
  clear hps hlen hpsz hcle
  have hown := ei (w := w) (S := (w.heap.size <= ·)) ps 9 (by simp only [maxLen]; omega) (Nat.le_refl _)
  have hb1 : Below w.heap.size w (w.alloc (.cells (ps.map Value.string).toArray 9)) := (Below.refl _ _).alloc (Nat.le_refl _) _
  generalize w.alloc (.cells (ps.map Value.string).toArray 9) = w1 at hown hb1
  have hsee := hown.seen
  clear hmm hown
  go_wp2_with fail
  have hkw : kwL s.data.toList = if (ps.all fun p => bw p.data.toList) && decide (ps.length <= 4) then some (spl 58 s.data.toList.dropLast) else none := by
    unfold kwL
    rw [if_pos Hl.out, <- Hspl.out, List.length_map, List.all_map]; rfl
  have hpl2 : (spl 58 s.data.toList.dropLast).length = ps.length := by rw [<- Hspl.out, List.length_map]
  have Hkw := Lib.hid hkw
  have Hpl2 := Lib.hid hpl2
  clear hkw hpl2 hc hpos hsz1 hs1
  go_loopw [17] (fun i wr => ∃ k n : Nat, k <= ps.length /\ i = .int .i64 k /\ wr = w1.drewN n /\ (ps.all fun p => bw p.data.toList) = (ps.drop k).all fun p => bw p.data.toList) (fun i _ => ps.length - (intOf i).toNat)
  case atStart => exact ⟨0, 0, Nat.zero_le _, rfl, rfl, rfl⟩
  case round =>
    obtain ⟨k, n, hk, rfl, rfl, hr⟩ := hrel
    have Hr := Lib.hid hr
    clear hr
    by_cases hlt : k < ps.length
    ·obtain ⟨b, o, hA, _, hcell⟩ := hsee.str_at hlt
     simp only [Option.some.injEq, Addr.mk.injEq, and_true] at hA
     obtain ⟨rfl, rfl⟩ := hA
     rw [Nat.zero_add] at hcell
     have hsp := hP.out ps[k] (List.getElem_mem hlt)
     have hdr := List.drop_eq_getElem_cons hlt
     have Hdr := Lib.hid hdr
     clear hdr
     cases hq : bw ps[k].data.toList
     ·go_wp2_with (go_at_call 264; refine (jJ ps[k] _ hsp).mono ?_; rintro e w' ⟨rfl, m, rfl⟩)
      go_ret
      refine ⟨aQ hb1 _, ?_⟩
      rw [Hkw.out, Hr.out, Hdr.out, List.all_cons, hq]
      rfl
     ·go_wp2_with (go_at_call 264; refine (jJ ps[k] _ hsp).mono ?_; rintro e w' ⟨rfl, m, rfl⟩)
      go_roundw
      case rel => exact ⟨k + 1, _, by omega, by go_num, rfl, by rw [Hr.out, Hdr.out, List.all_cons, hq]; rfl⟩
      case measure => simp [intOf]; omega
    ·have hall : (ps.all fun p => bw p.data.toList) = true := by rw [Hr.out, List.drop_eq_nil_of_le (by omega)]; rfl
     have Hall := Lib.hid hall
     clear hall
     by_cases h4 : (ps.length : Int) <= 4
     ·go_wp2
      go_ret
      refine ⟨aQ hb1 _, ?_⟩
      rw [Hkw.out, Hall.out, decide_eq_true (by omega)]
      exact ⟨_, _, _, by rw [Hpl2.out]; rfl⟩
     ·go_wp2
      go_ret
      refine ⟨aQ hb1 _, ?_⟩
      rw [Hkw.out, Hall.out, decide_eq_false (by omega)]
      rfl
theorem jS (s : ByteArray) (w : World) (hs : s.size <= 1048576) (hm : pe w) (hk : kwL s.data.toList = none) : Calls Tryz.prog 214 #[.string s] w fun e w' => e = .returned (.slice none 0 0) /\ Below w.heap.size w w' :=
 (lr s w hs hm).mono fun e w' ⟨hb, h⟩ => by rw [hk] at h; exact ⟨h, hb⟩
theorem f6 (s : ByteArray) (w : World) (hs : s.size <= 1048576) (hm : pe w) (ps : List (List UInt8)) (hk : kwL s.data.toList = some ps) : Calls Tryz.prog 214 #[.string s] w fun e w' => ∃ b o c, e = .returned (.slice (some ⟨b, o, none⟩) ps.length c) /\ Below w.heap.size w w' :=
 (lr s w hs hm).mono fun e w' ⟨hb, h⟩ => by rw [hk] at h; obtain ⟨b, o, c, h⟩ := h; exact ⟨b, o, c, h, hb⟩
theorem mc (s : ByteArray) (w : World) (hs : s.size <= 1048576) (hm : pe w) : Calls Tryz.prog 135 #[.string s] w fun e w' => e = .returned (.bool (bY s.data.toList)) /\ Below w.heap.size w w' := by
 cases ho : jD s.data.toList
 ·cases hn : bT s.data.toList
  ·cases hk : kwL s.data.toList with
   | none =>
     have Hk := Lib.hid hk
     clear hk
     go_enter Tryz.func135, Tryz.ntmps135
     go_wp2_with (first
       | (go_at_call 213; refine (bN s _).mono ?_; rintro e w1 ⟨rfl, hb1⟩)
       | (go_at_call 211; refine (dG s _ hs).mono ?_; rintro e w2 ⟨rfl, n2, rfl⟩)
       | (go_at_call 214; refine (jS s _ hs (pe.below (w := w1) (hm.below hb1) (aQ (Below.refl _ _) _)) Hk.out).mono ?_; rintro e w3 ⟨rfl, hb3⟩))
     go_ret
     exact ⟨ba (by rw [bY, ho, hn, Hk.out]; rfl), (aQ hb1 _).trans (hb3.mono hb1.size)⟩
   | some ps =>
     have Hk := Lib.hid hk
     clear hk
     go_enter Tryz.func135, Tryz.ntmps135
     go_wp2_with (first
       | (go_at_call 213; refine (bN s _).mono ?_; rintro e w1 ⟨rfl, hb1⟩)
       | (go_at_call 211; refine (dG s _ hs).mono ?_; rintro e w2 ⟨rfl, n2, rfl⟩)
       | (go_at_call 214; refine (f6 s _ hs (pe.below (w := w1) (hm.below hb1) (aQ (Below.refl _ _) _)) ps Hk.out).mono ?_; rintro e w3 ⟨b, o, c, rfl, hb3⟩))
     go_ret
     exact ⟨ba (by rw [bY, ho, hn, Hk.out]; rfl), (aQ hb1 _).trans (hb3.mono hb1.size)⟩
  ·go_enter Tryz.func135, Tryz.ntmps135
   go_wp2_with (first
     | (go_at_call 213; refine (bN s _).mono ?_; rintro e w1 ⟨rfl, hb1⟩)
     | (go_at_call 211; refine (dG s _ hs).mono ?_; rintro e w2 ⟨rfl, n2, rfl⟩))
   go_ret
   exact ⟨ba (by rw [bY, ho, hn]; rfl), aQ hb1 _⟩
 ·go_enter Tryz.func135, Tryz.ntmps135
  go_wp2_with (go_at_call 213; refine (bN s _).mono ?_; rintro e w1 ⟨rfl, hb1⟩)
  go_ret
  exact ⟨ba (by rw [bY, ho]; rfl), hb1⟩
theorem oz (s : ByteArray) (w : World) (hs : s.size <= 1048576) (hm : pe w) : Calls Tryz.prog 136 #[.string s] w fun e w' => e = .returned (.int .i64 (bG s.data.toList)) /\ Below w.heap.size w w' := by
 cases ho : jD s.data.toList
 ·cases hn : bT s.data.toList
  ·cases hk : kwL s.data.toList with
   | none =>
     have Hk := Lib.hid hk
     clear hk
     go_enter Tryz.func136, Tryz.ntmps136
     go_wp2_with (first
       | (go_at_call 213; refine (bN s _).mono ?_; rintro e w1 ⟨rfl, hb1⟩)
       | (go_at_call 211; refine (dG s _ hs).mono ?_; rintro e w2 ⟨rfl, n2, rfl⟩)
       | (go_at_call 214; refine (jS s _ hs (pe.below (w := w1) (hm.below hb1) (aQ (Below.refl _ _) _)) Hk.out).mono ?_; rintro e w3 ⟨rfl, hb3⟩))
     go_ret
     exact ⟨fR (by rw [bG, ho, hn, Hk.out]; rfl), (aQ hb1 _).trans (hb3.mono hb1.size)⟩
   | some ps =>
     have Hk := Lib.hid hk
     clear hk
     go_enter Tryz.func136, Tryz.ntmps136
     go_wp2_with fail
     refine (bN s _).mono ?_
     rintro e w1 ⟨rfl, hb1⟩
     go_wp2_with fail
     refine (dG s _ hs).mono ?_
     rintro e w2 ⟨rfl, n2, rfl⟩
     have hm2 : pe (w1.drewN n2) := pe.below (w := w1) (hm.below hb1) (aQ (Below.refl _ _) _)
     go_wp2_with fail
     refine (f6 s _ hs hm2 ps Hk.out).mono ?_
     rintro e w3 ⟨b, o, c, rfl, hb3⟩
     have hm3 := hm2.below hb3
     go_wp2_with fail
     refine (f6 s _ hs hm3 ps Hk.out).mono ?_
     rintro e w4 ⟨b4, o4, c4, rfl, hb4⟩
     go_wp2_with fail
     go_ret
     exact ⟨fR (by rw [bG, ho, hn, Hk.out]; rfl), ((aQ hb1 _).trans (hb3.mono hb1.size)).trans (hb4.mono (Nat.le_trans hb1.size hb3.size))⟩
  ·go_enter Tryz.func136, Tryz.ntmps136
   go_wp2_with (first
     | (go_at_call 213; refine (bN s _).mono ?_; rintro e w1 ⟨rfl, hb1⟩)
     | (go_at_call 211; refine (dG s _ hs).mono ?_; rintro e w2 ⟨rfl, n2, rfl⟩))
   go_ret
   exact ⟨fR (by rw [bG, ho, hn]; rfl), aQ hb1 _⟩
 ·go_enter Tryz.func136, Tryz.ntmps136
  go_wp2_with (go_at_call 213; refine (bN s _).mono ?_; rintro e w1 ⟨rfl, hb1⟩)
  go_ret
  exact ⟨fR (by rw [bG, ho]; rfl), hb1⟩
theorem dw (s : ByteArray) (w : World) (hs : s.size <= 1048576) : Calls Tryz.prog 203 #[.string s] w fun e w' => e = .returned (.bool (bY s.data.toList)) /\ Below w.heap.size w w' := by
 have Hsel := Lib.hid (jC s.data.toList)
 have Hops := Lib.hid (nU s)
 have Hwords := Lib.hid (jP s)
 go_enter Tryz.func203, Tryz.ntmps203
 cases ho : ig nq s
 ·go_wp2_with fail
  refine (e9 _).mono ?_
  rintro e w1 ⟨rfl, rfl⟩
  go_wp2_with fail
  refine (iP _ 15 nq s _ (fun _ => True) (ei nq _ (by decide) trivial).seen (by decide)).mono ?_
  rintro e w1 ⟨rfl, hq⟩
  have hb1 : Below w.heap.size w w1 := by
    obtain ⟨n, rfl⟩ := hq
    exact aQ ((Below.refl _ _).alloc (Nat.le_refl _) _) _
  clear hq
  go_wp2_with fail
  refine (je s 58 w1 hs).mono ?_
  rintro e w2 ⟨ps, g, c, hps, rfl, hb2, how⟩
  have hB := hb1.trans (hb2.mono hb1.size)
  have hsee := how.seen
  have hlen : ps.length = (spl 58 s.data.toList).length := by rw [<- hps, List.length_map]
  have hpos := kU 58 s.data.toList
  rw [<- hlen] at hpos
  have Hps := Lib.hid hps
  have Hlen := Lib.hid hlen
  clear hps hlen how hb1 hb2
  have hle : ps.length <= 1048577 := by
    have := jH 58 s.data.toList
    rw [br] at this
    have := Hlen.out
    omega
  have hcap : ps.length <= c := by simpa [jB] using hsee.1
  have hP : Hid (∀ p ∈ ps, p.size <= 1048576) := fun p hp => by
    have h1 : p.data.toList ∈ spl 58 s.data.toList := by rw [<- Hps.out]; exact List.mem_map_of_mem (f := (·.data.toList)) hp
    have h2 := ja 58 _ _ h1
    rw [br, br] at h2
    omega
  have hspec : im s.data.toList = if 1 < ps.length then (if (ps.getLast?.map (·.data.toList)) = some [] then ps.dropLast.all (fun p => bw p.data.toList) && decide (ps.length - 1 <= 4) else false) else bw s.data.toList && !fE s.data.toList := by
    unfold im
    rw [<- Hops.out, ho, <- Hlen.out, <- Hps.out, List.getLast?_map, <- List.map_dropLast, List.all_map]
    rfl
  have Hspec := Lib.hid hspec
  clear hspec
  by_cases h1 : (1 : Int) < ps.length
  ·obtain ⟨b, o, hA, _, hcell⟩ := hsee.str_at (k := ps.length - 1) (by omega)
   simp only [Option.some.injEq, Addr.mk.injEq, and_true] at hA
   obtain ⟨rfl, rfl⟩ := hA
   rw [Nat.zero_add] at hcell
   cases he : (ps[ps.length - 1]).toList.isEmpty
   ·have hlast : ¬ (ps.getLast?.map (·.data.toList)) = some [] := by
      rw [List.getLast?_eq_getElem?, List.getElem?_eq_getElem (by omega), Option.map_some, <- Lib.toList_data]
      intro h
      simp only [Option.some.injEq] at h
      rw [h] at he
      cases he
    have Hlast := Lib.hid hlast
    clear hlast
    go_wp2
    go_ret
    exact ⟨ba (by rw [<- Hsel.out, Hspec.out, if_pos (by omega), if_neg Hlast.out]), hB⟩
   ·have hlast : (ps.getLast?.map (·.data.toList)) = some [] := by
      rw [List.getLast?_eq_getElem?, List.getElem?_eq_getElem (by omega), Option.map_some, <- Lib.toList_data]
      rw [List.isEmpty_iff.1 he]
    have Hlast := Lib.hid hlast
    have hfin : im s.data.toList = (ps.dropLast.all (fun p => bw p.data.toList) && decide (ps.length - 1 <= 4)) := by
      rw [Hspec.out, if_pos (by omega), if_pos hlast]
    have Hfin := Lib.hid hfin
    clear hlast hfin
    have h2 : (1 : Int) <= ps.length := by omega
    have h3 : (ps.length : Int) - 1 <= c := by omega
    have hn1 : ((ps.length : Int) == 1) = false := by simp; omega
    go_wp2_with fail
    go_loopw [5] (fun i wr => ∃ k n : Nat, k <= ps.length - 1 /\ i = .int .i64 k /\ wr = w2.drewN n /\ (ps.dropLast.all fun p => bw p.data.toList) = (ps.dropLast.drop k).all fun p => bw p.data.toList) (fun i _ => ps.length - (intOf i).toNat)
    case atStart => exact ⟨0, 0, Nat.zero_le _, rfl, rfl, rfl⟩
    case round =>
      obtain ⟨k, n, hk, rfl, rfl, hr⟩ := hrel
      have Hr := Lib.hid hr
      clear hr
      by_cases hlt : k < ps.length - 1
      ·obtain ⟨b, o, hA, _, hcellk⟩ := hsee.str_at (k := k) (by omega)
       simp only [Option.some.injEq, Addr.mk.injEq, and_true] at hA
       obtain ⟨rfl, rfl⟩ := hA
       rw [Nat.zero_add] at hcellk
       have hsp := hP.out ps[k] (List.getElem_mem (by omega))
       have hdr : ps.dropLast.drop k = ps[k] :: ps.dropLast.drop (k + 1) := by
         rw [List.drop_eq_getElem_cons (by simp; omega), List.getElem_dropLast]
       have Hdr := Lib.hid hdr
       clear hdr
       cases hq : bw ps[k].data.toList
       ·go_wp2_with (go_at_call 255; refine (ea ps[k] _ hsp).mono ?_; rintro e w' ⟨rfl, m, rfl⟩)
        go_ret
        exact ⟨ba (by rw [<- Hsel.out, Hfin.out, Hr.out, Hdr.out, List.all_cons, hq]; rfl), aQ hB _⟩
       ·go_wp2_with (go_at_call 255; refine (ea ps[k] _ hsp).mono ?_; rintro e w' ⟨rfl, m, rfl⟩)
        go_roundw
        case rel => exact ⟨k + 1, _, by omega, by go_num, rfl, by rw [Hr.out, Hdr.out, List.all_cons, hq]; rfl⟩
        case measure => simp [intOf]; omega
      ·have hall : (ps.dropLast.all fun p => bw p.data.toList) = true := by rw [Hr.out, List.drop_eq_nil_of_le (by simp; omega)]; rfl
       have Hall := Lib.hid hall
       clear hall
       go_wp2
       go_ret
       exact ⟨ba (by rw [<- Hsel.out, Hfin.out, Hall.out, Bool.true_and, decide_eq_decide]; omega), aQ hB _⟩
  ·have hone : ps.length = 1 := by omega
   obtain ⟨p, rfl⟩ := List.length_eq_one_iff.1 hone
   have hp : p = s := by
     have h2 := Hps.out
     have h3 := rZ 58 s.data.toList (by rw [<- Hlen.out]; rfl)
     rw [h3] at h2
     simp only [List.map_cons, List.map_nil, List.cons.injEq, and_true] at h2
     exact oh h2
   subst hp
   have hfin : im p.data.toList = (bw p.data.toList && !fE p.data.toList) := by rw [Hspec.out, if_neg (by simp)]
   have Hfin := Lib.hid hfin
   obtain ⟨b, o, hA, _, hcell⟩ := hsee.str_at (k := 0) (by simp)
   simp only [Option.some.injEq, Addr.mk.injEq, and_true, List.getElem_cons_zero] at hA hcell
   obtain ⟨rfl, rfl⟩ := hA
   rw [Nat.zero_add] at hcell
   clear hfin hone h1 hpos hle
   go_wp2_with fail
   go_loopw [5] (fun i wr => ∃ k : Nat, k <= 1 /\ i = .int .i64 k /\ Below w.heap.size w wr /\ wr.cell? ⟨g, 0, none⟩ = some (.string p) /\ (k = 0 \/ bT p.data.toList = true)) (fun i _ => 1 - (intOf i).toNat)
   case atStart => exact ⟨0, by omega, rfl, hB, hcell, .inl rfl⟩
   case round =>
     obtain ⟨k, hk, rfl, hbr, hc, hr⟩ := hrel
     by_cases hlt : k < 1
     ·obtain rfl : k = 0 := by omega
      have hgr : g < wr.heap.size := World.block_lt_of_cell? wr _ hc
      clear hr
      cases hq : bw p.data.toList
      ·go_wp2_with (go_at_call 255; refine (ea p _ hs).mono ?_; rintro e w' ⟨rfl, m, rfl⟩)
       go_ret
       exact ⟨ba (by rw [<- Hsel.out, Hfin.out, hq]; rfl), aQ hbr _⟩
      ·go_wp2_with fail
       refine (ea p _ hs).mono ?_
       rintro e w3 ⟨rfl, hq3⟩
       have hb3 := rA hq3
       have hbr3 := hbr.trans (hb3.mono hbr.size)
       have hc3 := (hb3.cell (p := ⟨g, 0, none⟩) hgr).trans hc
       clear hq3 hb3 hc
       go_wp2_with fail
       refine (rq _).mono ?_
       rintro e w4 ⟨rfl, rfl⟩
       go_wp2_with fail
       refine (iP _ 7 d7 p _ (fun _ => True) (ei d7 _ (by decide) trivial).seen (by decide)).mono ?_
       rintro e w5 ⟨rfl, n5, rfl⟩
       have hb5 : Below w.heap.size w ((w3.alloc (.cells (d7.map Value.string).toArray 9)).drewN n5) := aQ (hbr3.alloc hbr3.size _) _
       have hc5 : ((w3.alloc (.cells (d7.map Value.string).toArray 9)).drewN n5).cell? ⟨g, 0, none⟩ = some (.string p) := by
         show (w3.alloc _).cell? _ = _
         rw [World.cell?_alloc_lt w3 _ _ (World.block_lt_of_cell? w3 _ hc3)]; exact hc3
       generalize (w3.alloc (.cells (d7.map Value.string).toArray 9)).drewN n5 = w6 at hb5 hc5
       cases hw : ig d7 p
       ·go_wp2_with fail
        go_roundw
        case rel => exact ⟨1, by omega, rfl, hb5, hc5, .inr (by rw [bT, hq, <- Hwords.out, hw]; rfl)⟩
        case measure => simp [intOf]
       ·go_wp2_with fail
        go_ret
        exact ⟨ba (by rw [<- Hsel.out, Hfin.out, hq, <- Hwords.out, hw]; rfl), hb5⟩
     ·obtain rfl : k = 1 := by omega
      have hn : bT p.data.toList = true := by
        rcases hr with h | h
        ·cases h
        ·exact h
      have Hn := Lib.hid hn
      clear hr hn
      go_wp2_with fail
      go_ret
      exact ⟨ba (by rw [<- Hsel.out, Hfin.out]; exact Hn.out.symm), hbr⟩
 ·go_wp2_with fail
  refine (e9 _).mono ?_
  rintro e w1 ⟨rfl, rfl⟩
  go_wp2_with fail
  refine (iP _ 15 nq s _ (fun _ => True) (ei nq _ (by decide) trivial).seen (by decide)).mono ?_
  rintro e w1 ⟨rfl, hq⟩
  have hb1 : Below w.heap.size w w1 := by
    obtain ⟨n, rfl⟩ := hq
    exact aQ ((Below.refl _ _).alloc (Nat.le_refl _) _) _
  go_wp2
  go_ret
  exact ⟨ba (by rw [bY, <- Hops.out, ho]; rfl), hb1⟩
theorem jM (s : ByteArray) (w : World) (hs : s.size <= 1048576) : Calls Tryz.prog 204 #[.string s] w fun e w' => e = .returned (.int .i64 (bG s.data.toList)) /\ Below w.heap.size w w' := by
 have Hargs := Lib.hid (rM s.data.toList)
 have Hsel := Lib.hid (jC s.data.toList)
 have Hops := Lib.hid (nU s)
 cases hq : bY s.data.toList
 ·go_enter Tryz.func204, Tryz.ntmps204
  go_wp2_with fail
  refine (dw s w hs).mono ?_
  rintro e w1 ⟨rfl, hb1⟩
  go_wp2_with fail
  go_ret
  exact ⟨fR (by rw [<- Hargs.out, iM, Hsel.out, hq]; rfl), hb1⟩
 ·cases ho : ig nq s
  all_goals
    go_enter Tryz.func204, Tryz.ntmps204
    go_wp2_with fail
    refine (dw s w hs).mono ?_
    rintro e w1 ⟨rfl, hb1⟩
    go_wp2_with fail
    refine (e9 _).mono ?_
    rintro e w2 ⟨rfl, rfl⟩
    go_wp2_with fail
    refine (iP _ 15 nq s _ (fun _ => True) (ei nq _ (by decide) trivial).seen (by decide)).mono ?_
    rintro e w3 ⟨rfl, hq3⟩
    have hb3 : Below w.heap.size w w3 := by
      obtain ⟨n, rfl⟩ := hq3
      exact aQ (hb1.alloc hb1.size _) _
    go_wp2_with fail
  ·refine (je s 58 w3 hs).mono ?_
   rintro e w4 ⟨ps, g, c, hps, rfl, hb4, how⟩
   have hlen : ps.length = (spl 58 s.data.toList).length := by rw [<- hps, List.length_map]
   have hl2 := jH 58 s.data.toList
   rw [br, <- hlen] at hl2
   have Hlen := Lib.hid hlen
   have hps' := Lib.hid hps
   clear hlen hps
   go_wp2_with fail
   go_ret
   exact ⟨fR (by rw [<- Hargs.out, iM, Hsel.out, hq, <- Hops.out, ho, <- Hlen.out]; rfl), hb3.trans (hb4.mono hb3.size)⟩
  ·go_ret
   exact ⟨fR (by rw [<- Hargs.out, iM, Hsel.out, hq, <- Hops.out, ho]; rfl), hb3⟩
end Go.Proofs.YtiihihgjiklnoaaGreatDoor
