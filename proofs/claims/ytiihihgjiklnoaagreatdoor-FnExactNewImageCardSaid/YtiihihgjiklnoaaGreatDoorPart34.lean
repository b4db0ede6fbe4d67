/- Part 34 of the proof: the texts IvQ, IvR, RsP, RsA, RsB, RsC, IvF, IvT. -/
import Derived.Test.YtiihihgjiklnoaaGreatDoorPart32
import Derived.Test.YtiihihgjiklnoaaGreatDoorPart33
import Derived.Test.YtiihihgjiklnoaaGreatDoorPart31
import Derived.Test.YtiihihgjiklnoaaGreatDoorPart17
import Derived.Test.YtiihihgjiklnoaaGreatDoorPart16
/- IsVerified: what both sides compute of the entries, the blocks' codes and the instructions (no program in sight). -/
namespace Go.Proofs.YtiihihgjiklnoaaGreatDoor
open Go Go.RowKit
/-- A code that is no block's and has so many parameters. -/
def plainAt (cs : List TCode) (k n : Int) : Prop := ∃ x, cs[k.toNat]? = some x ∧ x.block = false ∧ x.params = n
theorem plainAt_iff {cs : List TCode} {k n : Int} {j : Nat} {x : TCode} (hk : k = j) (hx : cs[j]? = some x) : plainAt cs k n ↔ x.block = false ∧ x.params = n := by
  unfold plainAt
  subst hk
  rw [Int.toNat_natCast, hx]
  constructor
  · rintro ⟨y, hy, h⟩; cases hy; exact h
  · exact fun h => ⟨x, rfl, h⟩
def entryOk (nc : Nat) (cs : List TCode) (e : TEntry) : Prop :=
  (isSelL e.selector.data.toList = true ∧ inR e.owner 16 ((nc : Int) - 1) = true ∧ inR e.code 0 ((cs.length : Int) - 1) = true) ∧ plainAt cs e.code (nArgsL e.selector.data.toList)
def sameEntry (e f : TEntry) : Prop := f.owner = e.owner ∧ f.class_ = e.class_ ∧ f.selector = e.selector
def newEntry (es : List TEntry) (i : Nat) (e : TEntry) : Prop := ∀ f ∈ es.take i, ¬ sameEntry e f
def entriesOk (nc : Nat) (cs : List TCode) (es : List TEntry) : Prop := ∀ (i : Nat) (h : i < es.length), entryOk nc cs es[i] ∧ newEntry es i es[i]
open Classical in
noncomputable def entriesB (nc : Nat) (cs : List TCode) (es : List TEntry) : Bool := decide (entriesOk nc cs es ∧ es.length ≤ 96)
theorem entries_bad {nc : Nat} {cs : List TCode} {es : List TEntry} {i : Nat} (h : i < es.length) (hb : ¬ (entryOk nc cs es[i] ∧ newEntry es i es[i])) : ¬ entriesOk nc cs es := fun k => hb (k i h)
theorem entries_good {nc : Nat} {cs : List TCode} {es : List TEntry} (h : ∀ j, j < es.length → ∀ h : j < es.length, entryOk nc cs es[j] ∧ newEntry es j es[j]) : entriesOk nc cs es := fun i hi => h i hi hi

open Classical in
theorem entriesB_bad {nc : Nat} {cs : List TCode} {es : List TEntry} {i : Nat} (h : i < es.length) (hb : ¬ (entryOk nc cs es[i] ∧ newEntry es i es[i])) : entriesB nc cs es = false := decide_eq_false fun k => entries_bad h hb k.1
open Classical in
theorem entriesB_good {nc : Nat} {cs : List TCode} {es : List TEntry} (h : ∀ j, j < es.length → ∀ h : j < es.length, entryOk nc cs es[j] ∧ newEntry es j es[j]) : entriesB nc cs es = decide ((es.length : Int) ≤ 96) := by
  unfold entriesB
  rw [decide_eq_decide]
  exact ⟨fun h => by omega, fun k => ⟨entries_good h, by omega⟩⟩
open Classical in
theorem entriesB_long {nc : Nat} {cs : List TCode} {es : List TEntry} (h : ¬ es.length ≤ 96) : entriesB nc cs es = false := decide_eq_false fun k => h k.2
/-- The codes around the blocks' codes: an instruction of code i. -/
def outI (i : Nat) (x : TInstr) (o : List Int) : Option (List Int) :=
  if x.op = 15 then (if (0 ≤ x.a ∧ x.a ≤ (i : Int) - 1) ∧ ¬ 0 ≤ gd o x.a then some (o.set x.a.toNat i) else none) else some o
def outRow (i : Nat) : List TInstr → List Int → Option (List Int)
  | [], o => some o
  | x :: r, o => match outI i x o with
    | none => none
    | some o' => outRow i r o'
def outGo : Nat → List TCode → List Int → Option (List Int)
  | _, [], o => some o
  | i, x :: r, o => match outRow i x.instrs o with
    | none => none
    | some o' => outGo (i + 1) r o'
/-- A block's code stands somewhere, no other does. -/
def outFits (cs : List TCode) (o : List Int) : Prop := ∀ (i : Nat) (h : i < cs.length), cs[i].block = decide (0 ≤ gd o (i : Int))
open Classical in
noncomputable def outFin (cs : List TCode) : Option (List Int) → Option (List Int)
  | none => none
  | some o => if outFits cs o then some o else none
/-- From code i on, with row r of it left. -/
noncomputable def outRest (cs : List TCode) (i : Nat) (r : List TInstr) (o : List Int) : Option (List Int) := outFin cs (match outRow i r o with
    | none => none
    | some o' => outGo (i + 1) (cs.drop (i + 1)) o')
noncomputable def outFrom (cs : List TCode) (i : Nat) (o : List Int) : Option (List Int) := outFin cs (outGo i (cs.drop i) o)
noncomputable def outersL (cs : List TCode) : Option (List Int) := outFrom cs 0 (List.replicate cs.length (-1))
theorem outFrom_step {cs : List TCode} {i : Nat} (h : i < cs.length) (o : List Int) : outFrom cs i o = outRest cs i cs[i].instrs o := by
  unfold outFrom outRest
  rw [List.drop_eq_getElem_cons h]; rfl
theorem outFrom_end {cs : List TCode} {i : Nat} (h : ¬ i < cs.length) (o : List Int) : outFrom cs i o = outFin cs (some o) := by
  unfold outFrom
  rw [List.drop_of_length_le (by omega)]; rfl
theorem outRest_step {cs : List TCode} {i k : Nat} {is : List TInstr} (h : k < is.length) (o : List Int) : outRest cs i (is.drop k) o = match outI i is[k] o with
    | none => none
    | some o' => outRest cs i (is.drop (k + 1)) o' := by
  unfold outRest
  rw [List.drop_eq_getElem_cons h]
  show outFin cs (match (match outI i is[k] o with | none => none | some o' => outRow i (is.drop (k + 1)) o') with | none => none | some o' => outGo (i + 1) (cs.drop (i + 1)) o') = _
  cases outI i is[k] o <;> rfl
theorem outRest_end {cs : List TCode} {i k : Nat} {is : List TInstr} (h : ¬ k < is.length) (o : List Int) : outRest cs i (is.drop k) o = outFrom cs (i + 1) o := by
  unfold outRest outFrom
  rw [List.drop_of_length_le (by omega)]; rfl
theorem gd_set_ne {o : List Int} {a b : Nat} {v : Int} (h : a ≠ b) : gd (o.set a v) (b : Int) = gd o (b : Int) := by
  simp [gd, h]
theorem gd_set_eq {o : List Int} {a : Nat} {v : Int} (h : a < o.length) : gd (o.set a v) (a : Int) = v := by
  simp [gd, h]
/-- What holds all the way: every code's outer one is later. -/
def outInv (n : Nat) (o : List Int) : Prop := o.length = n ∧ ∀ j : Nat, j < n → gd o j = -1 ∨ ((j : Int) < gd o j ∧ gd o j < n)
theorem outInv_zero (n : Nat) : outInv n (List.replicate n (-1)) := ⟨by simp, fun j hj => .inl (by simp [gd, hj])⟩
theorem outI_inv {n i : Nat} {x : TInstr} {o o' : List Int} (hi : i < n) (h : outI i x o = some o') (ho : outInv n o) : outInv n o' ∧ ∀ j : Nat, 0 ≤ gd o j → 0 ≤ gd o' j := by
  unfold outI at h
  split at h
  · split at h
    · rename_i h1
      cases h
      obtain ⟨a, ha⟩ : ∃ a : Nat, x.a = a := ⟨x.a.toNat, by omega⟩
      rw [ha] at h1 ⊢
      rw [Int.toNat_natCast]
      have hal : a < n := by omega
      refine ⟨⟨by simp [ho.1], fun j hj => ?_⟩, fun j hj => ?_⟩
      · by_cases hja : a = j
        · subst hja
          rw [gd_set_eq (by rw [ho.1]; exact hal)]
          exact .inr ⟨by omega, by omega⟩
        · rw [gd_set_ne hja]; exact ho.2 j hj
      · by_cases hja : a = j
        · subst hja
          rw [gd_set_eq (by rw [ho.1]; exact hal)]; omega
        · rw [gd_set_ne hja]; exact hj
    · cases h
  · cases h; exact ⟨ho, fun j hj => hj⟩
theorem outRow_inv {n i : Nat} (hi : i < n) : ∀ {r : List TInstr} {o o' : List Int}, outRow i r o = some o' → outInv n o → outInv n o' ∧ ∀ j : Nat, 0 ≤ gd o j → 0 ≤ gd o' j
  | [], o, o', h, ho => by cases h; exact ⟨ho, fun _ hj => hj⟩
  | x :: r, o, o', h, ho => by
    unfold outRow at h
    split at h
    · cases h
    · rename_i o1 h1
      obtain ⟨h2, h3⟩ := outI_inv hi h1 ho
      obtain ⟨h4, h5⟩ := outRow_inv hi h h2
      exact ⟨h4, fun j hj => h5 j (h3 j hj)⟩
theorem outGo_inv {n : Nat} : ∀ {r : List TCode} {i : Nat} {o o' : List Int}, i + r.length ≤ n → outGo i r o = some o' → outInv n o → outInv n o' ∧ ∀ j : Nat, 0 ≤ gd o j → 0 ≤ gd o' j
  | [], i, o, o', _, h, ho => by cases h; exact ⟨ho, fun _ hj => hj⟩
  | x :: r, i, o, o', hn, h, ho => by
    unfold outGo at h
    split at h
    · cases h
    · rename_i o1 h1
      simp only [List.length_cons] at hn
      obtain ⟨h2, h3⟩ := outRow_inv (by omega) h1 ho
      obtain ⟨h4, h5⟩ := outGo_inv (by omega) h h2
      exact ⟨h4, fun j hj => h5 j (h3 j hj)⟩
theorem outFin_some {cs : List TCode} {p : Option (List Int)} {o : List Int} (h : outFin cs p = some o) : p = some o ∧ outFits cs o := by
  cases p with
  | none => cases h
  | some o' =>
    by_cases hf : outFits cs o'
    · have : outFin cs (some o') = some o' := by unfold outFin; exact if_pos hf
      rw [this] at h; cases h; exact ⟨rfl, hf⟩
    · have : outFin cs (some o') = none := by unfold outFin; exact if_neg hf
      rw [this] at h; cases h
theorem outersL_inv {cs : List TCode} {o : List Int} (h : outersL cs = some o) : outInv cs.length o ∧ outFits cs o := by
  obtain ⟨h1, h2⟩ := outFin_some h
  exact ⟨(outGo_inv (by simp) h1 (outInv_zero _)).1, h2⟩
/-- A code that no block is and that stands somewhere: all is wrong. -/
theorem outRest_noblock {cs : List TCode} {i k : Nat} {is : List TInstr} {o : List Int} {a : Nat} (hi : i < cs.length) (ho : outInv cs.length o) (ha : a < cs.length) (hb : cs[a].block = false) (hp : 0 ≤ gd o (a : Int)) : outRest cs i (is.drop k) o = none := by
  cases h : outRest cs i (is.drop k) o with
  | none => rfl
  | some o' =>
    exfalso
    obtain ⟨h1, h2⟩ := outFin_some h
    split at h1
    · cases h1
    · rename_i o1 h3
      obtain ⟨h4, h5⟩ := outRow_inv hi h3 ho
      obtain ⟨h6, h7⟩ := outGo_inv (by simp; omega) h1 h4
      have h8 := h2 a ha
      rw [hb] at h8
      have h9 := h7 a (h5 a hp)
      rw [decide_eq_true h9] at h8
      cases h8
theorem outFin_bad {cs : List TCode} {o : List Int} {i : Nat} (h : i < cs.length) (hb : cs[i].block ≠ decide (0 ≤ gd o (i : Int))) : outFin cs (some o) = none := by
  unfold outFin
  exact if_neg fun k => hb (k i h)
theorem outFin_good {cs : List TCode} {o : List Int} (h : ∀ j, j < cs.length → ∀ h : j < cs.length, cs[j].block = decide (0 ≤ gd o (j : Int))) : outFin cs (some o) = some o := by
  unfold outFin
  exact if_pos fun i hi => h i hi hi

/-- The code and those around it, the innermost first. -/
def climb (o : List Int) : Nat → Int → List Int
  | 0, _ => []
  | n + 1, k => if k < 0 then [] else k :: climb o n (gd o k)
/-- The way up, counted out. -/
def upN (o : List Int) : Nat → Int → Int
  | 0, k => k
  | n + 1, k => if k < 0 then k else upN o n (gd o k)
theorem upN_neg (o : List Int) (n : Nat) {k : Int} (h : k < 0) : upN o n k = k := by
  cases n with
  | zero => rfl
  | succ n => unfold upN; rw [if_pos h]
theorem climb_up {o : List Int} (hinv : outInv o.length o) : ∀ (n : Nat) (k : Int) (b : Nat), k = -1 ∨ (0 ≤ k ∧ k < o.length ∧ o.length ≤ n + k.toNat) → (climb o n k)[b]? = if 0 ≤ upN o b k then some (upN o b k) else none
  | 0, k, b, h => by
    obtain rfl : k = -1 := by omega
    rw [upN_neg o b (by omega)]; rfl
  | n + 1, k, b, h => by
    rcases h with rfl | ⟨h0, h1, h2⟩
    · rw [upN_neg o b (by omega)]; rfl
    · unfold climb
      rw [if_neg (by omega)]
      obtain ⟨j, rfl⟩ : ∃ j : Nat, k = j := ⟨k.toNat, by omega⟩
      cases b with
      | zero =>
        show some (j : Int) = _
        unfold upN
        rw [if_pos h0]
      | succ b =>
        show (climb o n (gd o j))[b]? = _
        have hj := hinv.2 j (by omega)
        rw [climb_up hinv n (gd o j) b (by rw [Int.toNat_natCast] at h2; omega)]
        have : upN o (b + 1) j = upN o b (gd o j) := by
          conv => lhs; unfold upN
          rw [if_neg (by omega)]
        rw [this]
theorem climb_len (o : List Int) : ∀ (n : Nat) (k : Int), (climb o n k).length ≤ n
  | 0, _ => Nat.le_refl _
  | n + 1, k => by
    unfold climb
    split
    · simp
    · have := climb_len o n (gd o k); simp; omega
end Go.Proofs.YtiihihgjiklnoaaGreatDoor
/- IsVerified: what both sides compute of the instructions and codes (no program in sight). -/
namespace Go.Proofs.YtiihihgjiklnoaaGreatDoor
open Go Go.RowKit
theorem tcode_row {lo : Nat} {cs : List TCode} {j : Nat} (h : j < cs.length) : (cs.map (TCode.tw lo))[j]? = some [.bool cs[j].block, .int .i64 cs[j].params, .int .i64 cs[j].slots, .sl lo 4 (cs[j].instrs.map (TInstr.tw lo))] := row_map h
theorem tentry_row {lo : Nat} {es : List TEntry} {j : Nat} (h : j < es.length) : (es.map (TEntry.tw lo))[j]? = some [.int .i64 es[j].owner, .bool es[j].class_, .str es[j].selector, .int .i64 es[j].code] := row_map h
theorem tinstr_row {lo : Nat} {is : List TInstr} {j : Nat} (h : j < is.length) : (is.map (TInstr.tw lo))[j]? = some [.int .i64 is[j].op, .int .i64 is[j].a, .int .i64 is[j].b, .str is[j].text] := row_map h
def TInstr.none : TInstr := ⟨0, 0, 0, ⟨#[]⟩⟩
/-- The code so many levels above code k. -/
def levelOf (cs : List TCode) (o : List Int) (k : Nat) (b : Int) : Option TCode := if 0 ≤ b ∧ 0 ≤ upN o b.toNat k then cs[(upN o b.toNat k).toNat]? else none
def varOk (cs : List TCode) (o : List Int) (k : Nat) (x : TInstr) : Bool := match levelOf cs o k x.b with
  | none => false
  | some y => inR x.a (if x.op = 9 then y.params else 0) (IntKind.i64.wrap (y.slots - 1))
def instrHead (x : TInstr) : Prop := inR x.op 1 26 = true ∧ (useA x.op = true ∨ x.a = 0) ∧ (useB x.op = true ∨ x.b = 0) ∧ (useT x.op = true ∨ x.text = ⟨#[]⟩)
instance (x : TInstr) : Decidable (instrHead x) := by unfold instrHead; infer_instance
def instrTail (cs : List TCode) (nc : Nat) (o : List Int) (k : Nat) (own : TCode) (x : TInstr) : Bool :=
  if x.op = 1 then inR x.a 0 999999999
  else if x.op = 2 then plainR x.text
  else if x.op = 3 ∨ x.op = 13 then isSelL x.text.data.toList
  else if x.op = 8 ∨ x.op = 9 then varOk cs o k x
  else if x.op = 10 ∨ x.op = 11 then isNameL x.text.data.toList
  else if x.op = 12 then inR x.a 0 ((nc : Int) - 1)
  else if x.op = 14 then isSelL x.text.data.toList && inR x.a 0 ((nc : Int) - 1)
  else if x.op = 20 then inR x.a 0 ((own.instrs.length : Int) - 1)
  else if x.op = 21 ∨ x.op = 22 then inR x.a 0 ((own.instrs.length : Int) - 1) && inR x.b 0 ((own.instrs.length : Int) - 1)
  else if x.op = 24 then inR x.b 0 ((own.instrs.length : Int) - 1)
  else if x.op = 25 ∨ x.op = 26 then inR x.a own.params (own.slots - 1) && inR x.b 0 ((own.instrs.length : Int) - 1)
  else true
def instrB (cs : List TCode) (nc : Nat) (o : List Int) (k : Nat) (own : TCode) (x : TInstr) : Bool := decide (instrHead x) && instrTail cs nc o k own x
theorem instr_pre {cs : List TCode} {nc : Nat} {o : List Int} {k : Nat} {own : TCode} {x : TInstr} (h : instrB cs nc o k own x = true) : preOkI own.instrs.length x = true := by
  obtain ⟨op, a, b, t⟩ := x
  unfold instrB at h
  rw [Bool.and_eq_true, decide_eq_true_eq] at h
  obtain ⟨h0, h2⟩ := h
  have h1 := h0.1
  clear h0
  unfold preOkI
  rw [labs_eq2, List.all_map]
  simp only [inR, decide_eq_true_eq] at h1
  unfold instrTail at h2
  dsimp only at h2 h1 ⊢
  have h3 : inR op 1 26 = true := inR_t h1
  rw [h3, ← sel_args]
  simp only [labOff]
  have hc : op = 1 ∨ op = 2 ∨ op = 3 ∨ op = 4 ∨ op = 5 ∨ op = 6 ∨ op = 7 ∨ op = 8 ∨ op = 9 ∨ op = 10 ∨ op = 11 ∨ op = 12 ∨ op = 13 ∨ op = 14 ∨ op = 15 ∨ op = 16 ∨ op = 17 ∨ op = 18 ∨ op = 19 ∨ op = 20 ∨ op = 21 ∨ op = 22 ∨ op = 23 ∨ op = 24 ∨ op = 25 ∨ op = 26 := by omega
  clear h1 h3
  rcases hc with rfl | rfl | rfl | rfl | rfl | rfl | rfl | rfl | rfl | rfl | rfl | rfl | rfl | rfl | rfl | rfl | rfl | rfl | rfl | rfl | rfl | rfl | rfl | rfl | rfl | rfl
  all_goals first
    | rfl
    | (simp at h2; simp [h2, labV]; done)
    | (simp at h2; simp [h2.1, h2.2, labV]; done)
theorem instrs_pre {cs : List TCode} {nc : Nat} {o : List Int} {k : Nat} {own : TCode} (h : ∀ y ∈ own.instrs, instrB cs nc o k own y = true) : preOk own.instrs = true := by
  unfold preOk
  rw [List.all_eq_true]
  exact fun x hx => instr_pre (h x hx)
/-- What the blocks' codes tell of a block's instruction. -/
def blockFits (cs : List TCode) (i : Nat) (x : TInstr) : Prop := x.op = 15 → (0 ≤ x.a ∧ x.a ≤ (i : Int) - 1) ∧ ∃ y, cs[x.a.toNat]? = some y ∧ y.block = true
theorem outRow_mem {n i : Nat} (hi : i < n) : ∀ {r : List TInstr} {o o' : List Int}, outRow i r o = some o' → outInv n o → ∀ x ∈ r, x.op = 15 → (0 ≤ x.a ∧ x.a ≤ (i : Int) - 1) ∧ 0 ≤ gd o' x.a
  | [], o, o', h, ho, x, hx, _ => by cases hx
  | y :: r, o, o', h, ho, x, hx, h15 => by
    unfold outRow at h
    split at h
    · cases h
    · rename_i o1 h1
      obtain ⟨h2, h3⟩ := outI_inv hi h1 ho
      rcases List.mem_cons.1 hx with rfl | hx
      · unfold outI at h1
        rw [if_pos h15] at h1
        split at h1
        · rename_i h4
          cases h1
          refine ⟨h4.1, ?_⟩
          obtain ⟨a, ha⟩ : ∃ a : Nat, x.a = a := ⟨x.a.toNat, by omega⟩
          have h5 := (outRow_inv hi h h2).2 a
          rw [ha] at h5 ⊢
          refine h5 ?_
          rw [Int.toNat_natCast, gd_set_eq (by rw [ho.1]; omega)]
          omega
        · cases h1
      · exact outRow_mem hi h h2 x hx h15
theorem outGo_mem {n : Nat} : ∀ {r : List TCode} {i : Nat} {o o' : List Int}, i + r.length ≤ n → outGo i r o = some o' → outInv n o → ∀ (j : Nat) (c : TCode), r[j]? = some c → ∀ x ∈ c.instrs, x.op = 15 → (0 ≤ x.a ∧ x.a ≤ ((i + j : Nat) : Int) - 1) ∧ 0 ≤ gd o' x.a
  | [], i, o, o', _, h, ho, j, c, hc, x, hx, _ => by simp at hc
  | y :: r, i, o, o', hn, h, ho, j, c, hc, x, hx, h15 => by
    unfold outGo at h
    split at h
    · cases h
    · rename_i o1 h1
      simp only [List.length_cons] at hn
      obtain ⟨h2, h3⟩ := outRow_inv (by omega) h1 ho
      cases j with
      | zero =>
        simp at hc; subst hc
        obtain ⟨h4, h5⟩ := outRow_mem (by omega) h1 ho x hx h15
        refine ⟨h4, ?_⟩
        have h6 := (outGo_inv (by omega) h h2).2 x.a.toNat
        rw [Int.toNat_of_nonneg h4.1] at h6
        exact h6 h5
      | succ j =>
        have := outGo_mem (by omega) h h2 j c (by simpa using hc) x hx h15
        rw [show i + 1 + j = i + (j + 1) by omega] at this
        exact this
theorem outersL_block {cs : List TCode} {o : List Int} (h : outersL cs = some o) {i : Nat} {c : TCode} (hc : cs[i]? = some c) : ∀ x ∈ c.instrs, blockFits cs i x := fun x hx h15 => by
  obtain ⟨h1, h2⟩ := outFin_some h
  have hi : i < cs.length := (List.getElem?_eq_some_iff.1 hc).1
  obtain ⟨h3, h4⟩ := outGo_mem (by simp) h1 (outInv_zero _) i c (by simpa using hc) x hx h15
  rw [Nat.zero_add] at h3
  refine ⟨h3, ?_⟩
  obtain ⟨a, ha⟩ : ∃ a : Nat, x.a = a := ⟨x.a.toNat, by omega⟩
  rw [ha] at h3 h4 ⊢
  rw [Int.toNat_natCast]
  have hal : a < cs.length := by omega
  refine ⟨cs[a], List.getElem?_eq_getElem hal, ?_⟩
  rw [h2 a hal]
  exact decide_eq_true h4
/-- A code is right. -/
def codeHead (x : TCode) : Prop := inR x.slots 0 30 = true ∧ inR x.params 0 x.slots = true ∧ x.instrs.length ≤ 900
def codeOk (cs : List TCode) (nc : Nat) (o : List Int) (k : Nat) (x : TCode) : Prop := codeHead x ∧ (∀ y ∈ x.instrs, instrB cs nc o k x y = true) ∧ (depthsL x.instrs).isSome = true
open Classical in
noncomputable def codeB (cs : List TCode) (nc : Nat) (o : List Int) (k : Nat) (x : TCode) : Bool := decide (codeOk cs nc o k x)
def codesOk (cs : List TCode) (nc : Nat) (o : List Int) : Prop := ∀ (k : Nat) (h : k < cs.length), codeOk cs nc o k cs[k]
def outerOk (cs : List TCode) (nc : Nat) : Prop := ∃ o, outersL cs = some o ∧ codesOk cs nc o
def mainOk (x : TCodeBase) : Prop := inR x.main 0 ((x.codes.length : Int) - 1) = true ∧ plainAt x.codes x.main 0
def verifiedP (x : TCodeBase) : Prop := classesOkB x.classes = true ∧ x.codes.length ≤ 200 ∧ mainOk x ∧ entriesB x.classes.length x.codes x.entries = true ∧ outerOk x.codes x.classes.length
open Classical in
noncomputable def verifiedB (x : TCodeBase) : Bool := decide (verifiedP x)
open Classical in
theorem verified_f {x : TCodeBase} (h : ¬ verifiedP x) : verifiedB x = false := decide_eq_false h
open Classical in
theorem verified_t {x : TCodeBase} (h : verifiedP x) : verifiedB x = true := decide_eq_true h
open Classical in
theorem codeB_f {cs : List TCode} {nc : Nat} {o : List Int} {k : Nat} {x : TCode} (h : ¬ codeOk cs nc o k x) : codeB cs nc o k x = false := decide_eq_false h
open Classical in
theorem codeB_t {cs : List TCode} {nc : Nat} {o : List Int} {k : Nat} {x : TCode} (h : codeOk cs nc o k x) : codeB cs nc o k x = true := decide_eq_true h
theorem intR_gd {o : List Int} {j : Nat} (h : j < o.length) : (intR o)[j]? = some [.int .i64 (gd o (j : Int))] := by
  simp [intR, gd, h]
theorem upN_succ (o : List Int) : ∀ (n : Nat) (k : Int), upN o (n + 1) k = if upN o n k < 0 then upN o n k else gd o (upN o n k)
  | 0, k => rfl
  | n + 1, k => by
    by_cases h : k < 0
    · rw [upN_neg o _ h, upN_neg o _ h, if_pos h]
    · have h1 : upN o (n + 1 + 1) k = upN o (n + 1) (gd o k) := by conv => lhs; unfold upN
                                                                   rw [if_neg h]
      have h2 : upN o (n + 1) k = upN o n (gd o k) := by conv => lhs; unfold upN
                                                         rw [if_neg h]
      rw [h1, h2]
      exact upN_succ o n (gd o k)
theorem upN_in {o : List Int} (hinv : outInv o.length o) : ∀ (n : Nat) (k : Int), k = -1 ∨ (0 ≤ k ∧ k < o.length) → upN o n k = -1 ∨ (0 ≤ upN o n k ∧ upN o n k < o.length)
  | 0, k, h => h
  | n + 1, k, h => by
    rw [upN_succ]
    have := upN_in hinv n k h
    split
    · exact this
    · obtain ⟨j, hj⟩ : ∃ j : Nat, upN o n k = j := ⟨(upN o n k).toNat, by omega⟩
      rw [hj] at this ⊢
      have := hinv.2 j (by omega)
      omega
theorem upN_ge {o : List Int} (hinv : outInv o.length o) {k : Int} (hk : 0 ≤ k ∧ k < o.length) : ∀ n : Nat, 0 ≤ upN o n k → (n : Int) ≤ upN o n k
  | 0, h => h
  | n + 1, h => by
    rw [upN_succ] at h ⊢
    have hin := upN_in hinv n k (.inr hk)
    split
    · rename_i h1; rw [if_pos h1] at h; omega
    · rename_i h1
      rw [if_neg h1] at h
      have ih := upN_ge hinv hk n (by omega)
      obtain ⟨j, hj⟩ : ∃ j : Nat, upN o n k = j := ⟨(upN o n k).toNat, by omega⟩
      rw [hj] at h hin ih ⊢
      have := hinv.2 j (by omega)
      omega
theorem upN_stays {o : List Int} {k : Int} {n : Nat} (h : upN o n k < 0) : ∀ m, n ≤ m → upN o m k = upN o n k
  | 0, hm => by obtain rfl : n = 0 := by omega
                rfl
  | m + 1, hm => by
    by_cases he : n = m + 1
    · rw [he]
    · have := upN_stays h m (by omega)
      rw [upN_succ, this, if_pos h]
theorem level_neg {cs : List TCode} {o : List Int} {k : Nat} {b : Int} (h : b < 0) : levelOf cs o k b = none := by
  unfold levelOf
  exact if_neg (by omega)
theorem level_off {cs : List TCode} {o : List Int} {k n : Nat} {b : Int} (h : upN o n k < 0) (hn : (n : Int) ≤ b) : levelOf cs o k b = none := by
  unfold levelOf
  rw [upN_stays h b.toNat (by omega)]
  exact if_neg (by omega)
theorem level_on {cs : List TCode} {o : List Int} {k j : Nat} {b : Int} {y : TCode} (hb : 0 ≤ b) (h : upN o b.toNat k = j) (hj : cs[j]? = some y) : levelOf cs o k b = some y := by
  unfold levelOf
  rw [h, if_pos ⟨hb, by omega⟩, Int.toNat_natCast, hj]
theorem level_list {cs : List TCode} {o : List Int} {k : Nat} (hinv : outInv cs.length o) (hk : k < cs.length) {b : Int} {L : List Int} (hL : L = (climb o cs.length k).reverse) (h : 0 ≤ b ∧ b ≤ (L.length : Int) - 1) :
    ∃ (q v : Nat) (y : TCode), (L.length : Int) - 1 - b = q ∧ (intR L)[q]? = some [.int .i64 (v : Int)] ∧ cs[v]? = some y ∧ levelOf cs o k b = some y := by
  obtain ⟨c, rfl⟩ : ∃ c : Nat, b = c := ⟨b.toNat, by omega⟩
  have hl : o.length = cs.length := hinv.1
  have hinv' : outInv o.length o := by rw [hl]; exact hinv
  have hcl : L.length = (climb o cs.length k).length := by rw [hL, List.length_reverse]
  have hcu := climb_up hinv' cs.length (k : Int) c (.inr ⟨by omega, by omega, by rw [hl]; omega⟩)
  have hc : c < (climb o cs.length k).length := by omega
  rw [List.getElem?_eq_getElem hc] at hcu
  split at hcu
  · rename_i h0
    have hin := upN_in hinv' c k (.inr ⟨by omega, by omega⟩)
    obtain ⟨v, hv⟩ : ∃ v : Nat, upN o c k = v := ⟨(upN o c k).toNat, by omega⟩
    rw [hv] at hin hcu
    have hvl : v < cs.length := by omega
    refine ⟨L.length - 1 - c, v, cs[v], by omega, ?_, List.getElem?_eq_getElem hvl, level_on (by omega) (by rw [Int.toNat_natCast]; exact hv) (List.getElem?_eq_getElem hvl)⟩
    have hg : L[L.length - 1 - c]? = some (v : Int) := by
      rw [hL, List.getElem?_reverse (by rw [List.length_reverse]; omega), List.length_reverse]
      rw [show (climb o cs.length k).length - 1 - ((climb o cs.length k).length - 1 - c) = c by omega, List.getElem?_eq_getElem hc]
      exact hcu
    simp only [intR, List.getElem?_map, hg]; rfl
  · cases hcu
theorem level_list_off {cs : List TCode} {o : List Int} {k : Nat} (hinv : outInv cs.length o) (hk : k < cs.length) {b : Int} {L : List Int} (hL : L = (climb o cs.length k).reverse) (h : ¬ (0 ≤ b ∧ b ≤ (L.length : Int) - 1)) : levelOf cs o k b = none := by
  by_cases h0 : b < 0
  · exact level_neg h0
  obtain ⟨c, rfl⟩ : ∃ c : Nat, b = c := ⟨b.toNat, by omega⟩
  have hl : o.length = cs.length := hinv.1
  have hinv' : outInv o.length o := by rw [hl]; exact hinv
  have hcl : L.length = (climb o cs.length k).length := by rw [hL, List.length_reverse]
  have hcu := climb_up hinv' cs.length (k : Int) c (.inr ⟨by omega, by omega, by rw [hl]; omega⟩)
  rw [List.getElem?_eq_none (by omega)] at hcu
  split at hcu
  · cases hcu
  · rename_i h1
    unfold levelOf
    rw [Int.toNat_natCast]
    exact if_neg fun h => h1 h.2
end Go.Proofs.YtiihihgjiklnoaaGreatDoor
/- ReachableSelectors: what both sides compute (no program in sight). -/
namespace Go.Proofs.YtiihihgjiklnoaaGreatDoor
open Go Go.RowKit
/-- The codes that are met, the selectors, the codes that are to be looked at. -/
structure RS where
  met : List Bool
  out : List ByteArray
  todo : List Int
def asyB : ByteArray := ⟨#[97, 115, 83, 121, 109, 98, 111, 108]⟩
def gb (l : List Bool) (k : Int) : Bool := l.getD k.toNat true
def metS (s : RS) (k : Int) : RS := if gb s.met k then s else ⟨s.met.set k.toNat true, s.out, s.todo ++ [k]⟩
def outS (l : List ByteArray) (t : ByteArray) : List ByteArray := if hasS l t then l else l ++ [t]
def rsI (s : RS) (x : TInstr) : RS :=
  if x.op = 3 ∨ x.op = 13 ∨ x.op = 14 then ⟨s.met, outS s.out x.text, s.todo⟩ else if x.op = 15 then metS s x.a else s
def rsRow (l : List TInstr) (s : RS) : RS := l.foldl rsI s
def rsE (any : Bool) (s : RS) (e : TEntry) : RS := if !gb s.met e.code && (any || hasS s.out e.selector) then metS s e.code else s
def rsPass (any : Bool) (l : List TEntry) (s : RS) : RS := l.foldl (rsE any) s
def codeI (cs : List TCode) (k : Int) : List TInstr := match cs[k.toNat]? with
  | some c => c.instrs
  | none => []
def rsStep (b : TCodeBase) (s : RS) : RS := match s.todo with
  | [] => rsPass (hasS s.out asyB) b.entries s
  | k :: r => rsRow (codeI b.codes k) ⟨s.met, s.out, r⟩
def rs0 (b : TCodeBase) : RS := ⟨(List.replicate b.codes.length false).set b.main.toNat true, [], [b.main]⟩
def rsIt (b : TCodeBase) : Nat → RS
  | 0 => rs0 b
  | n + 1 => rsStep b (rsIt b n)
def Rs (b : TCodeBase) (s : RS) : Prop := ∃ n, s = rsIt b n
theorem Rs.step {b : TCodeBase} {s : RS} (h : Rs b s) : Rs b (rsStep b s) := by
  obtain ⟨n, rfl⟩ := h
  exact ⟨n + 1, rfl⟩
theorem rsIt_fix {b : TCodeBase} {n : Nat} (h : rsStep b (rsIt b n) = rsIt b n) : ∀ m, n ≤ m → rsIt b m = rsIt b n
  | 0, hm => by obtain rfl : n = 0 := by omega
                rfl
  | m + 1, hm => by
    by_cases he : n = m + 1
    · rw [he]
    · show rsStep b (rsIt b m) = _
      rw [rsIt_fix h m (by omega), h]
theorem Rs.same {b : TCodeBase} {s t : RS} (h : Rs b s) (k : Rs b t) (hs : rsStep b s = s) (ht : rsStep b t = t) : s = t := by
  obtain ⟨n, rfl⟩ := h
  obtain ⟨m, rfl⟩ := k
  rcases Nat.le_total n m with h | h
  · exact (rsIt_fix hs m h).symm
  · exact rsIt_fix ht n h
/-- What the verifier tells. -/
structure RsOk (b : TCodeBase) : Prop where
  codes : b.codes.length ≤ 200
  main : 0 ≤ b.main ∧ b.main < b.codes.length
  entries : ∀ e ∈ b.entries, 0 ≤ e.code ∧ e.code < b.codes.length
  row : ∀ c ∈ b.codes, c.instrs.length ≤ 900 ∧ ∀ x ∈ c.instrs, x.op = 15 → 0 ≤ x.a ∧ x.a < b.codes.length
def unmet : List Bool → Nat
  | [] => 0
  | b :: r => (if b then 0 else 1) + unmet r
def RS.mu (s : RS) : Nat := s.todo.length + unmet s.met
/-- The bounds that hold while so many texts may still come. -/
structure RsIn (b : TCodeBase) (n : Nat) (s : RS) : Prop where
  len : s.met.length = b.codes.length
  todo : ∀ k ∈ s.todo, 0 ≤ k ∧ k < b.codes.length
  room : s.out.length + 900 * s.mu + n ≤ 180000
end Go.Proofs.YtiihihgjiklnoaaGreatDoor
/- ReachableSelectors of the reference: its state (l28Code, l28Selector, l28Scan). -/
namespace Go.Proofs.YtiihihgjiklnoaaGreatDoor
set_option maxRecDepth 20000
open Go Go.RowKit
section
variable {G : World → Prop}
end
end Go.Proofs.YtiihihgjiklnoaaGreatDoor
/- ReachableSelectors of the reference: l28Scan, l28Reach. -/
namespace Go.Proofs.YtiihihgjiklnoaaGreatDoor
set_option maxRecDepth 20000
open Go Go.RowKit
section
variable {G : World → Prop}
end
end Go.Proofs.YtiihihgjiklnoaaGreatDoor
/- ReachableSelectors of the reference: l28Reach. -/
namespace Go.Proofs.YtiihihgjiklnoaaGreatDoor
set_option maxRecDepth 20000
open Go Go.RowKit
section
variable {G : World → Prop}
end
end Go.Proofs.YtiihihgjiklnoaaGreatDoor
/- IsVerified: which parts an operation has, on the side of the program. -/
namespace Go.Proofs.YtiihihgjiklnoaaGreatDoor
open Go Go.RowKit
set_option maxHeartbeats 2000000 in
theorem writes_ct {G : World → Prop} (op : Int) : Ct Tryz.prog G 219 [.int .i64 op] (fun _ => .tup [.bool (useA op), .bool (useB op), .bool (useT op)]) := by
  refine ct_enter Tryz.func219 rfl Tryz.ntmps219 rfl rfl fun w0 _ hG => ?_
  repeat' (first | with_reducible refine al_none rfl ?_ | ((with_reducible apply o_y); exact y_; rfl) | with_reducible refine aw_seq ?_ | with_reducible refine aw_region ?_ | with_reducible refine al_nil ?_ | with_reducible refine aq_then ?_ | with_reducible refine aw_block ?_ | with_reducible refine aw_exit ?_ | with_reducible refine aw_skip ?_ | with_reducible refine aw_ret ?_ | with_reducible refine aq_block_hit ?_ | with_reducible refine aq_block_miss rfl ?_ | with_reducible refine aq_then_exit ?_ | with_reducible refine aq_then_ret ?_ | with_reducible refine aq_block_ret ?_ | with_reducible refine aq_block ?_ | with_reducible refine al_none rfl ?_ | refine al_run rfl rfl rfl rr_ ?_ | refine al_skip rfl rfl rfl rr_ rfl rfl rfl ?_ | refine al_skip2 rfl rfl rfl rr_ rfl rfl ?_ | (refine al_gt rfl rfl rfl rr_ dd_ ?_) | (refine al_gf rfl rfl rfl rr_ dd_ ?_) | (refine al_gsplit rfl rfl rfl rr_ (fun hg => ?_) (fun hg => ?_)) | (refine al_gsplit_b rfl rfl rfl rr_ (fun hg => ?_) (fun hg => ?_)) | refine aw_cond_t rfl rr_ ?_ | refine aw_cond_f rfl rr_ ?_ | (refine aw_cond_dt rfl rr_ dd_ ?_) | (refine aw_cond_df rfl rr_ dd_ ?_) | (refine aw_cond rfl rr_ (fun hc => ?_) (fun hc => ?_)) | (refine aw_cond_b rfl rr_ (fun hc => ?_) (fun hc => ?_)))
  all_goals
    refine aq_ret3 x_ rfl (.tmp _ _ rfl) (.tmp _ _ rfl) (.tmp _ _ rfl) (fun _ => ?_) (fun _ => ?_) (fun _ => ?_)
    all_goals
      refine fin_bool ?_
      simp only [useA, useB, useT]
      symm
      first | (rw [decide_eq_true_iff]; omega) | (rw [decide_eq_false_iff_not]; omega)
end Go.Proofs.YtiihihgjiklnoaaGreatDoor
/- IsVerified: selectors as contracts; what is new memory of the depths. -/
namespace Go.Proofs.YtiihihgjiklnoaaGreatDoor
open Go Go.RowKit
def GL (w : World) : Prop := MaxL w
theorem GL_st : Stable GL := ⟨fun _ _ h hb => MaxL.below h hb⟩
theorem hcaS (s : ByteArray) (hs : s.size ≤ 1048576) : Ct Tryz.prog GL 204 [.str s] (fun _ => .int .i64 (nArgsL s.data.toList)) := ct_str_int fun w _ => specCountArgs_any s w hs
theorem hseS (s : ByteArray) (hs : s.size ≤ 1048576) : Ct Tryz.prog GL 203 [.str s] (fun _ => .bool (isSelL s.data.toList)) := ct_str_bool fun w _ => specIsSelector_any s w hs
theorem hcaI (s : ByteArray) (hs : s.size ≤ 1048576) : Ct Tryz.prog GL 136 [.str s] (fun _ => .int .i64 (nArgsL s.data.toList)) := ct_str_int fun w hG => countArgs_any s w hs hG
theorem hseI (s : ByteArray) (hs : s.size ≤ 1048576) : Ct Tryz.prog GL 135 [.str s] (fun _ => .bool (isSelL s.data.toList)) := ct_str_bool fun w hG => isSelector_any s w hs hG
theorem dO_new (r : Option (List Int)) : ∀ y : Nat × Nat, True → (∀ s b o, (s, b, o) ∈ dO r y → ObjNew (dO r y) o) ∧ NewOk (dO r y) (dR r y) := fun y _ =>
  ⟨fun s b o h => by
    simp only [dO, List.mem_singleton, Prod.mk.injEq] at h
    obtain ⟨_, _, rfl⟩ := h
    exact flat_new (intR_flat _), .tup _ fun t ht => by
    simp only [List.mem_cons, List.not_mem_nil, or_false] at ht
    rcases ht with rfl | rfl
    · exact .ms _ _ _ _ _ _ List.mem_cons_self
    · exact .flat _ rfl⟩
theorem instrs_tw (lo : Nat) (is : List TInstr) : instrR is = is.map (TInstr.tw lo) := rfl
end Go.Proofs.YtiihihgjiklnoaaGreatDoor
