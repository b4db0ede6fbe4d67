/- The contracts of the laws' own helpers on []int: copy, compare, mark, look at the marks. -/
import Derived.Test.YtagmokkjkmiblaaDoorMem
import Derived.Test.YtagmokkjkmiblaaDoorChecked
import Derived.Deep.QuietTactic
import Derived.BigQuiet
namespace Go.Proofs.YtagmokkjkmiblaaDoor
open Go Go.RowKit

theorem Tryd.infoInt : (Tryd.prog.info? 3).map (fun i => (i.zero, i.size, i.bytes)) = some (some (.int .i64 0), 1, 8) := by kernel_rfl

def ints (zs : List Int) : List PT := zs.map (PT.int .i64)
theorem ints_length (zs : List Int) : (ints zs).length = zs.length := by simp [ints]
theorem ints_append (a b : List Int) : ints (a ++ b) = ints a ++ ints b := by simp [ints]
theorem cellsL_ints (zs : List Int) : PT.cellsL (ints zs) = zs.map (Value.int .i64) := by
  induction zs with
  | nil => rfl
  | cons z r ih => simp only [ints, List.map_cons, PT.cellsL, PT.cells] at *; rw [ih]; rfl
theorem blocksL_ints (zs : List Int) : PT.blocksL (ints zs) = [] := by
  induction zs with
  | nil => rfl
  | cons z r ih => simp only [ints, List.map_cons, PT.blocksL, PT.blocks] at *; rw [ih]; rfl
theorem seenL_ints (w : World) (S : Nat → Prop) (zs : List Int) : SeenL w S (ints zs) := SeenL.of_get fun t ht => by
  simp only [ints, List.mem_map] at ht; obtain ⟨z, _, rfl⟩ := ht; trivial
theorem ownL_ints (w : World) (zs : List Int) : OwnL w (ints zs) := OwnL.of_get fun t ht => by
  simp only [ints, List.mem_map] at ht; obtain ⟨z, _, rfl⟩ := ht; trivial

theorem ints_cells (zs : List Int) : ∀ t ∈ ints zs, t.cells.length = 1 := fun t ht => by
  simp only [ints, List.mem_map] at ht; obtain ⟨z, _, rfl⟩ := ht; rfl

/-- What the walk asks of a slice of ints. -/
theorem Seen.int_at {w : World} {S : Nat → Prop} {A : Option Addr} {c : Nat} {zs : List Int} (h : Seen w S (.sl A c 1 (ints zs))) {k : Nat} (hk : k < zs.length) :
    ∃ b o, A = some ⟨b, o, none⟩ ∧ S b ∧ w.cell? ⟨b, o + k, none⟩ = some (.int .i64 (zs[k]'hk)) := by
  have h1 := h.2.2.1
  rw [cellsL_ints] at h1
  exact h1 k _ (by simp [hk])

theorem take_snoc (zs : List Int) {k : Nat} (h : k < zs.length) : (zs.take (k + 1)).map (Value.int .i64) = (zs.take k).map (Value.int .i64) ++ [.int .i64 (zs[k])] := by
  rw [List.take_add_one, List.getElem?_eq_getElem h, List.map_append]; rfl

theorem seen_none_ints (w : World) (S : Nat → Prop) : Seen w S (.sl none 0 1 (ints [])) := ⟨by simp [ints], by simp, Sees.nil _ _ _, by simp [ints], trivial⟩

theorem addr_plain (A : Option Addr) (n : Nat) (w : World) (h : ∀ i, i < n → ∃ a u, A = some a ∧ w.cell? (a.add i) = some u) {j : Nat} (hj : j < n) : ∃ b o, A = some ⟨b, o, none⟩ ∧ True := by
  obtain ⟨⟨b, o, s⟩, u, hA, hc⟩ := h 0 (by omega)
  rw [Addr.add_zero'] at hc
  cases s with
  | none => exact ⟨b, o, hA, trivial⟩
  | some s => simp [World.cell?] at hc; split at hc <;> simp at hc

theorem seen_ints (A : Option Addr) (c : Nat) (zs : List Int) (w : World) (hl : zs.length ≤ c) (hc : c ≤ maxLen) (h : ∀ j (hj : j < zs.length), ∃ a, A = some a ∧ w.cell? (a.add j) = some (.int .i64 zs[j])) :
    Seen w (· < w.heap.size) (.sl A c 1 (ints zs)) := by
  refine ⟨by simpa [ints] using hl, hc, ?_, ints_cells zs, seenL_ints _ _ _⟩
  rw [cellsL_ints]
  intro j u hj
  obtain ⟨hj1, rfl⟩ := List.getElem?_eq_some_iff.1 hj
  have hj2 : j < zs.length := by simpa using hj1
  obtain ⟨a, hA, hcell⟩ := h j hj2
  obtain ⟨b, o, s⟩ := a
  rw [List.getElem_map]
  obtain ⟨b0, o0, hA0, h0⟩ := addr_plain A zs.length w (fun i hi => by obtain ⟨a, h1, h2⟩ := h i hi; exact ⟨a, _, h1, h2⟩) hj2
  rw [hA0] at hA
  simp only [Option.some.injEq, Addr.mk.injEq] at hA
  obtain ⟨rfl, rfl, rfl⟩ := hA
  rw [Addr.add_lit] at hcell
  exact ⟨b0, o0, hA0, by have := World.block_lt_of_cell? w _ hcell; exact this, hcell⟩

theorem owned_ints {w : World} {g : Nat} {e : TypeId} {c : Nat} {zs : List Int} {S : Nat → Prop} (h : Fill w g e c (zs.map (Value.int .i64))) (hl : zs.length ≤ c) (hc : c ≤ maxLen) (hS : S g) :
    Owned w S (.sl (some ⟨g, 0, none⟩) c 1 (ints zs)) :=
  ⟨Fill.own (by rw [cellsL_ints, Nat.mul_one]; exact h) (ints_cells zs) (by simpa [ints] using hl) hc (ownL_ints w zs), by simp [PT.blocks, blocksL_ints, PT.rowOf], by simp [PT.blocks, blocksL_ints, PT.rowOf, hS]⟩

/-- Are two lists of ints one and the same? -/
def eqI (a b : List Int) : Bool := decide (a = b)
theorem eqI_of (a b : List Int) (h : a = b) : eqI a b = true := by simp [eqI, h]

set_option maxHeartbeats 400000 in
theorem eqIntS_any (A B : Option Addr) (c d : Nat) (zs : List Int) (w : World) (S T : Nat → Prop) (ha : Seen w S (.sl A c 1 (ints zs))) (hb : Seen w T (.sl B d 1 (ints zs))) (hn : zs.length ≤ 1048576) :
    Calls Tryd.prog 10 #[.slice A zs.length c, .slice B zs.length d] w fun e w' => e = .returned (.bool true) ∧ ∃ n, w' = w.drewN n := by
  go_enter Tryd.func10, Tryd.ntmps10
  go_wp2
  go_loopw [5] (fun i wr => ∃ k : Nat, k ≤ zs.length ∧ i = .int .i64 k ∧ ∃ n, wr = w.drewN n) (fun i _ => zs.length - (intOf i).toNat)
  case atStart => exact ⟨0, Nat.zero_le _, rfl, 0, rfl⟩
  case round =>
    obtain ⟨k, hk, rfl, n, rfl⟩ := hrel
    by_cases hlt : k < zs.length
    · obtain ⟨b, o, rfl, _, hc1⟩ := ha.int_at hlt
      obtain ⟨b', o', rfl, _, hc2⟩ := hb.int_at hlt
      have hq : (zs[k] != zs[k]) = false := by simp
      clear ha hb
      go_wp2
      go_quiet (fail)
      go_wp2
      go_roundw
      case rel => exact ⟨k + 1, by omega, by go_num, _, rfl⟩
      case measure => simp [intOf]; omega
    · go_wp2
      go_ret
      exact ⟨rfl, _, rfl⟩

/-- 'append(s, v)' onto a slice of ints of the call's own. -/
theorem wpList_append_int {ops : Array Oper} {rest : List Oper} {o : Oper} {a : Act} {Q : Exit → Act → World → Prop} {w : World} (hgd : o.guard = none) (s x : Operand)
    (ho : o.op = .call { callee := .builtin .append, args := #[s, x], argTypes := #[26, 26] }) {S : Nat → Prop} (A : Option Addr) (c n : Nat) (zs : List Int) (v : Int)
    (hs : a.eval s = .slice A n c) (hx : a.eval x = .slice (some ⟨w.heap.size, 0, none⟩) 1 1) (hown : Owned w S (.sl A c 1 (ints zs))) (hn : n = zs.length) (hS : S (w.heap.size + 1)) (hl : n ≤ 1000000000)
    (h : ∀ A' c' w', Owned w' S (.sl A' c' 1 (ints (zs ++ [v]))) → Touch (· ∈ PT.rowOf A) w w' → (∀ g, A = some ⟨g, 0, none⟩ → ∃ g', A' = some ⟨g', 0, none⟩) → wpList Tryd.prog ops Q rest (a.put o.dst (.slice A' (n + 1) c')) w') :
    wpList Tryd.prog ops Q (o :: rest) a (w.alloc (.cells #[.int .i64 v] 3)) := by
  obtain ⟨i0, hi0, hz0, hz1, hz2⟩ := info_parts Tryd.infoInt
  refine wpList_append_pt (w.alloc (.cells #[.int .i64 v] 3)) hgd s x _ ho 3 i0 _ 1 8 Tryd.underlying26 hi0 hz0 hz1 hz2 rfl (by omega) (S := S) A _ c 1 n 1 (ints zs) (ints [v]) hs hx (hown.ext (Ext.alloc1 w _)) (sees_new w _ _) (by simp [ints, hn]) rfl (ints_cells _) (ownL_ints _ _)
    (by cases A <;> simp [PT.blocks, PT.rowOf, blocksL_ints]) (by simp [blocksL_ints]) (by simpa using hS) (by simp only [maxLen]; omega) (by omega) fun A' c' w' h1 h2 h3 => ?_
  rw [← ints_append] at h1
  refine h A' c' w' h1 ((Touch.of_below ((Below.refl _ _).alloc (Nat.le_refl _) _) _).trans h2) fun g hg => ?_
  rcases h3 with rfl | rfl
  · exact ⟨g, hg⟩
  · exact ⟨_, rfl⟩

/-- The marks k, k + 1, .., n of them. -/
def marks (k n : Nat) : List Int := (List.range n).map fun i => ((k + i : Nat) : Int)
theorem marks_length (k n : Nat) : (marks k n).length = n := by simp [marks]
theorem marks_get (k n : Nat) {i : Nat} (h : i < (marks k n).length) : (marks k n)[i] = (k : Int) + i := by simp [marks]

theorem marked_step {k i : Nat} {zs : List Int} (hi : i < zs.length) : ((marks k i ++ zs.drop i).set i ((k : Int) + i)) = marks k (i + 1) ++ zs.drop (i + 1) := by
  rw [List.set_append_right _ _ (by simp [marks]), marks_length, Nat.sub_self, List.drop_eq_getElem_cons hi, List.set_cons_zero]
  simp [marks, List.range_succ]

theorem ints_set (zs : List Int) (i : Nat) (n : Int) : (ints zs).set i (.int .i64 n) = ints (zs.set i n) := by simp [ints, List.map_set]

/-- A store into a slice of ints of the call's own. -/
theorem Owned.set_int {w : World} {S : Nat → Prop} {b o c : Nat} {zs : List Int} (h : Owned w S (.sl (some ⟨b, o, none⟩) c 1 (ints zs))) {i : Nat} (_hi : i < zs.length) (n : Int) :
    Owned (w.setCell ⟨b, o + i, none⟩ (.int .i64 n)) S (.sl (some ⟨b, o, none⟩) c 1 (ints (zs.set i n))) := by
  rcases own_row h.1 with ⟨h1, _⟩ | ⟨g, cur, e, hA, hg, hl, hc, hs, ht⟩
  · simp at h1
  · simp only [Option.some.injEq, Addr.mk.injEq, and_true] at hA
    obtain ⟨rfl, rfl⟩ := hA
    rw [Nat.zero_add]
    refine ⟨own_of_block (cur := cur.setIfInBounds i (.int .i64 n)) (e := e) (ints_cells _) (by rw [cellsL_ints]; simp [ints]) (by simp [World.setCell, Array.getElem?_modify, hg]) (by simpa [ints] using hl) hc (by simpa using hs) ?_ (ownL_ints _ _), by simp [PT.blocks, blocksL_ints, PT.rowOf],
      fun b' hb' => h.2.2 b' (by simpa [PT.blocks, blocksL_ints] using hb')⟩
    rw [cellsL_ints] at ht ⊢
    rw [ints_length, Nat.mul_one] at ht ⊢
    rw [Array.toList_setIfInBounds, List.take_set, List.length_set, List.map_set, ht]

theorem Owned.no_frost {w : World} {S : Nat → Prop} {b o c m : Nat} {l : List PT} (h : Owned w S (.sl (some ⟨b, o, none⟩) c m l)) (i : Nat) : w.frozen? ⟨b, i, none⟩ = false := by
  rcases own_row h.1 with ⟨h1, _⟩ | ⟨g, cur, e, hA, hg, _⟩
  · simp at h1
  · simp only [Option.some.injEq, Addr.mk.injEq, and_true] at hA
    obtain ⟨rfl, rfl⟩ := hA
    simp [World.frozen?, hg]

theorem eqIntS_any' (m : Nat) (A B : Option Addr) (c d : Nat) (zs : List Int) (w : World) (S T : Nat → Prop) (ha : Seen w S (.sl A c 1 (ints zs))) (hb : Seen w T (.sl B d 1 (ints zs))) (hm : zs.length = m) (hn : m ≤ 1048576) :
    Calls Tryd.prog 10 #[.slice A m c, .slice B m d] w fun e w' => e = .returned (.bool true) ∧ ∃ n, w' = w.drewN n := by
  subst hm
  exact eqIntS_any A B c d zs w S T ha hb hn

/-- A slice cut at its front: 's[k:]'. -/
theorem Seen.cut_ints {w : World} {S : Nat → Prop} {b o c : Nat} {zs : List Int} (h : Seen w S (.sl (some ⟨b, o, none⟩) c 1 (ints zs))) {k : Nat} :
    Sees w S (if c = k then some ⟨b, o, none⟩ else some ⟨b, o + k, none⟩) (PT.cellsL (ints (zs.drop k))) := by
  have h1 := h.2.2.1
  have hl : zs.length ≤ c := by simpa [ints] using h.1
  rw [cellsL_ints] at h1 ⊢
  intro j u hj
  rw [List.map_drop, List.getElem?_drop] at hj
  have hlt : k + j < zs.length := by have := (List.getElem?_eq_some_iff.1 hj).1; simpa using this
  rw [if_neg (by omega)]
  obtain ⟨b', o', hA, hS, hc⟩ := h1 (k + j) u hj
  simp only [Option.some.injEq, Addr.mk.injEq, and_true] at hA
  obtain ⟨rfl, rfl⟩ := hA
  exact ⟨b, o + k, rfl, hS, by rw [Nat.add_assoc]; exact hc⟩
/-- A slice cut at its back: 's[:k]'. -/
theorem Owned.take_ints {w : World} {S : Nat → Prop} {A : Option Addr} {c : Nat} {zs : List Int} (h : Owned w S (.sl A c 1 (ints zs))) {k : Nat} (hk : k ≤ zs.length) :
    Owned w S (.sl A c 1 (ints (zs.take k))) := by
  refine ⟨?_, by cases A <;> simp [PT.blocks, blocksL_ints, PT.rowOf], fun b hb => h.2.2 b (by simpa [PT.blocks, blocksL_ints] using hb)⟩
  rcases own_row h.1 with ⟨rfl, rfl, h1⟩ | ⟨g, cur, e, rfl, hg, hl, hc, hs, ht⟩
  · have : zs = [] := by simpa [ints] using h1
    subst this
    simp only [List.take_nil]
    exact own_nil w 1
  · rw [ints_length] at hl ht
    refine own_of_block (ints_cells _) (by rw [cellsL_ints]; simp [ints]) hg (by simp [ints]; omega) hc hs ?_ (ownL_ints _ _)
    rw [cellsL_ints] at ht ⊢
    rw [ints_length, Nat.mul_one] at *
    rw [List.map_take, ← ht, List.take_take, List.length_take]

set_option maxHeartbeats 400000 in
theorem markIntS_any (A : Option Addr) (c : Nat) (zs : List Int) (k0 : Nat) (w : World) (S : Nat → Prop) (ho : Owned w S (.sl A c 1 (ints zs))) (hn : zs.length ≤ 1048576) (hk0 : k0 ≤ 1000000000) :
    Calls Tryd.prog 13 #[.slice A zs.length c, .int .i64 k0] w fun e w' => e = .returned (.int .i64 ((k0 : Int) + zs.length)) ∧ Touch S w w' ∧ Owned w' S (.sl A c 1 (ints (marks k0 zs.length))) := by
  go_enter Tryd.func13, Tryd.ntmps13
  go_wp2
  go_loopw [1, 5] (fun s i wr => ∃ k : Nat, k ≤ zs.length ∧ i = .int .i64 k ∧ s = .int .i64 ((k0 : Int) + k) ∧ Touch S w wr ∧ Owned wr S (.sl A c 1 (ints (marks k0 k ++ zs.drop k)))) (fun _ i _ => zs.length - (intOf i).toNat)
  case atStart => exact ⟨0, Nat.zero_le _, rfl, by simp, Touch.refl _ _, by simpa [marks] using ho⟩
  case round =>
    obtain ⟨k, hk, rfl, rfl, ht, hw⟩ := hrel
    by_cases hlt : k < zs.length
    · have hlen : k < (marks k0 k ++ zs.drop k).length := by simp [marks]; omega
      obtain ⟨b, o, rfl, hS, hcell⟩ := hw.seen.int_at hlen
      have hfz := hw.no_frost (o + k)
      have hst := hw.set_int hlen ((k0 : Int) + k)
      rw [marked_step hlt] at hst
      have ht1 := ht.setCell (p := ⟨b, o + k, none⟩) hS (.int .i64 ((k0 : Int) + k))
      clear ho hw ht
      go_wp2
      go_roundw
      case rel => exact ⟨k + 1, by omega, by go_num, by go_num, ht1, hst⟩
      case measure => simp [intOf]; omega
    · go_wp2
      go_ret
      have e : k = zs.length := by omega
      subst e
      rw [List.drop_length, List.append_nil] at hw
      exact ⟨rfl, ht, hw⟩

theorem markIntS_any' (m : Nat) (A : Option Addr) (c : Nat) (zs : List Int) (k0 : Nat) (w : World) (S : Nat → Prop) (ho : Owned w S (.sl A c 1 (ints zs))) (hm : zs.length = m) (hn : m ≤ 1048576) (hk0 : k0 ≤ 1000000000) :
    Calls Tryd.prog 13 #[.slice A m c, .int .i64 k0] w fun e w' => e = .returned (.int .i64 ((k0 : Int) + m)) ∧ Touch S w w' ∧ Owned w' S (.sl A c 1 (ints (marks k0 m))) := by
  subst hm
  exact markIntS_any A c zs k0 w S ho hn hk0

set_option maxHeartbeats 400000 in
theorem heldIntS_any (A : Option Addr) (c n k0 : Nat) (w : World) (S : Nat → Prop) (ho : Seen w S (.sl A c 1 (ints (marks k0 n)))) (hn : n ≤ 1048576) (hk0 : k0 ≤ 1000000000) :
    Calls Tryd.prog 14 #[.slice A n c, .int .i64 k0] w fun e w' => e = .returned (.int .i64 ((k0 : Int) + n)) ∧ w = w' := by
  go_enter Tryd.func14, Tryd.ntmps14
  go_wp2
  go_loop [1, 5] (fun s i => ∃ k : Nat, k ≤ n ∧ i = .int .i64 k ∧ s = .int .i64 ((k0 : Int) + k)) (fun _ i => n - (intOf i).toNat)
  case atStart => exact ⟨0, Nat.zero_le _, rfl, by simp⟩
  case round =>
    obtain ⟨k, hk, rfl, rfl⟩ := hrel
    by_cases hlt : k < n
    · have hlen : k < (marks k0 n).length := by simpa [marks] using hlt
      obtain ⟨b, o, rfl, hS, hcell⟩ := ho.int_at hlen
      rw [marks_get] at hcell
      have hq : (((k0 : Int) + k) != ((k0 : Int) + k)) = false := by simp
      clear ho hlen
      go_wp2
      go_round
      case rel => exact ⟨k + 1, by omega, by go_num, by go_num⟩
      case measure => simp [intOf]; omega
    · go_wp2
      go_ret
      have e : k = n := by omega
      subst e
      exact ⟨rfl, rfl⟩

end Go.Proofs.YtagmokkjkmiblaaDoor
