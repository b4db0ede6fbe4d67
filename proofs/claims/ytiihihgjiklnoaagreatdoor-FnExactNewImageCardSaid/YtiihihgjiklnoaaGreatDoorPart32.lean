/- Part 32 of the proof: the texts IvD, IvE, IvP, SdD, Rep, SdE. -/
import Derived.Test.YtiihihgjiklnoaaGreatDoorPart17
import Derived.Test.YtiihihgjiklnoaaGreatDoorPart31
import Derived.Test.YtiihihgjiklnoaaGreatDoorPart30
import Derived.Test.YtiihihgjiklnoaaGreatDoorPart29
import Derived.Test.YtiihihgjiklnoaaGreatDoorPart2
import Derived.Laws.CopyOwn
import Derived.IntWalk
import Derived.Deep.RegionHeld3
/- IsVerified: names on both sides; slices.Index, slices.Contains. -/
namespace Go.Proofs.YtiihihgjiklnoaaGreatDoor
set_option maxRecDepth 20000
open Go Go.RowKit
/-- The place of a text in a list, -1 if it stands nowhere. -/
def idxS (l : List ByteArray) (s : ByteArray) : Int := if hasS l s then (l.findIdx (fun y => decide (y = s)) : Nat) else -1
theorem idxS_at {l : List ByteArray} {s : ByteArray} {i : Nat} (h : i < l.length) (e : l[i] = s) (hb : ∀ y ∈ l.take i, y ≠ s) : idxS l s = i := by
  unfold idxS
  rw [if_pos (hasS_true h e), (List.findIdx_eq (p := fun y => decide (y = s)) h).2 ⟨by simp [e], fun j hj => ?_⟩]
  refine decide_eq_false (hb _ ?_)
  exact List.mem_take_iff_getElem.2 ⟨j, by omega, rfl⟩
theorem idxS_none {l : List ByteArray} {s : ByteArray} (h : ∀ y ∈ l, y ≠ s) : idxS l s = -1 := by
  unfold idxS
  rw [hasS_false h]; rfl
section
variable {G : World → Prop}
theorem implIsName_ct (s : ByteArray) (hs : s.size ≤ 1048576) : Ct Tryz.prog G 211 [.str s] (fun _ => .bool (isNameL s.data.toList)) := ct_str_bool fun w _ => (isName_any s w hs).mono fun _ _ h => ⟨h.1, q_below h.2⟩
theorem l2IsName_ct (s : ByteArray) (hs : s.size ≤ 1048576) : Ct Tryz.prog G 255 [.str s] (fun _ => .bool (isPartL s.data.toList)) := ct_str_bool fun w _ => (l2IsName_any s w hs).mono fun _ _ h => ⟨h.1, q_below h.2⟩
theorem l2Words_ct : Ct Tryz.prog G 256 [] (fun K => .sl K 1 (strR wordsB)) := by
  refine ct_enter Tryz.func256 rfl Tryz.ntmps256 rfl rfl fun w0 _ hG => ?_
  repeat' (first | refine W_ ?_ | refine e_lit ?_ | refine c_ (fun hc => ?_) (fun hc => ?_) | refine g_ (fun hg => ?_) (fun hg => ?_))
  refine aq_ret1 (r1 := .tmp 0) (t1 := .sl w0.heap.size 1 (strR wordsB)) (.inr rfl) rfl (.tmp _ _ rfl) (fun _ => ?_)
  exact fin_sl (f := fun s : ByteArray => [TV.str s]) (f' := fun s : ByteArray => [TV.str s]) (fun x => .cons (.flat rfl) .nil) wordsB
theorem specIsName_ct (hst : Stable G) (s : ByteArray) (hs : s.size ≤ 1048576) : Ct Tryz.prog G 201 [.str s] (fun _ => .bool (isNameL s.data.toList)) := by
  refine ct_enter Tryz.func201 rfl Tryz.ntmps201 rfl rfl fun w0 _ hG => ?_
  have hw : wordsB.length ≤ 1048576 := by decide
  have hp := l2IsName_ct (G := G) s hs
  rw [show isNameL s.data.toList = (isPartL s.data.toList && !hasS wordsB s) from by rw [hasS_words]; rfl]
  cases h : isPartL s.data.toList
  all_goals
    rw [h] at hp
    cases h2 : hasS wordsB s
    all_goals
      have hh := l1Has_ct (G := G) w0.heap.size wordsB s hw
      rw [h2] at hh
      repeat' (first | refine W_ ?_ | refine e_call hG hst (hp) ?_ | refine e_call hG hst (l2Words_ct) ?_ | refine e_call hG hst (hh) ?_ | refine c_ (fun hc => ?_) (fun hc => ?_) | refine g_ (fun hg => ?_) (fun hg => ?_))
      exact r1_
theorem slicesIndex_ct (lo : Nat) (l : List ByteArray) (s : ByteArray) (hn : l.length ≤ 1048576) : Ct Tryz.prog G 266 [.sl lo 1 (strR l), .str s] (fun _ => .int .i64 (idxS l s)) := by
  refine ct_enter Tryz.func266 rfl Tryz.ntmps266 rfl rfl fun w0 _ hG => ?_
  have hlen := strR_len l
  repeat' (first | refine W_ ?_ | refine c_ (fun hc => ?_) (fun hc => ?_) | refine g_ (fun hg => ?_) (fun hg => ?_))
  apply aw_loopk (X := Nat) [0, 1, 7] (fun i => [(8, .int .i64 (i : Int))]) (fun _ => []) (fun i => i ≤ l.length ∧ ∀ y ∈ l.take i, y ≠ s) (fun i => l.length - i) 0 ⟨Nat.zero_le _, by simp⟩
  exact kp_; exact nw_
  · exact .refl _
  rintro i ⟨hi, hs⟩
  try dsimp only
  by_cases hlt : i < l.length
  · have hrow := strR_row hlt
    have hta := take_all (p := fun y => y ≠ s) hlt hs
    have htr : l[i] = s → idxS l s = i := fun e => idxS_at hlt e hs
    generalize l[i] = x at hrow hta htr
    by_cases hx : x = s
    · rw [htr hx]
      have hx2 : s = x := hx.symm
      repeat' (first | refine W_ ?_ | refine c_ (fun hc => ?_) (fun hc => ?_) | refine g_ (fun hg => ?_) (fun hg => ?_))
      exact r1_
    · have hx2 : ¬ s = x := fun e => hx e.symm
      repeat' (first | refine W_ ?_ | refine c_ (fun hc => ?_) (fun hc => ?_) | refine g_ (fun hg => ?_) (fun hg => ?_))
      exact aq_round (i + 1) ⟨by omega, hta hx⟩ (by omega) (.of _ nw_ od_ pk_)
  · rw [List.take_of_length_le (by omega)] at hs
    rw [idxS_none hs]
    repeat' (first | refine W_ ?_ | refine c_ (fun hc => ?_) (fun hc => ?_) | refine g_ (fun hg => ?_) (fun hg => ?_))
    exact r1_
theorem slicesContains_ct (hst : Stable G) (lo : Nat) (l : List ByteArray) (s : ByteArray) (hn : l.length ≤ 1048576) : Ct Tryz.prog G 212 [.sl lo 1 (strR l), .str s] (fun _ => .bool (decide (idxS l s ≥ 0))) := by
  refine ct_enter Tryz.func212 rfl Tryz.ntmps212 rfl rfl fun w0 _ hG => ?_
  repeat' (first | refine W_ ?_ | refine e_call hG hst (slicesIndex_ct lo l s hn) ?_ | refine c_ (fun hc => ?_) (fun hc => ?_) | refine g_ (fun hg => ?_) (fun hg => ?_))
  exact r1_
theorem idxS_has (l : List ByteArray) (s : ByteArray) : decide (idxS l s ≥ 0) = hasS l s := by
  unfold idxS
  cases hasS l s
  · rfl
  · rw [if_pos rfl]; exact decide_eq_true (Int.natCast_nonneg _)
end
end Go.Proofs.YtiihihgjiklnoaaGreatDoor
/- IsVerified: texts that can stand between quotes (l3IsText, plainText). -/
namespace Go.Proofs.YtiihihgjiklnoaaGreatDoor
set_option maxRecDepth 20000
open Go Go.RowKit
def plainR (s : ByteArray) : Bool := decide (∀ j, j < s.size → 32 ≤ bat s j ∧ bat s j ≤ 126) && decide ((s.size : Int) ≤ 40)
theorem plainR_bad {s : ByteArray} {i : Nat} (h : i < s.size) (hb : ¬ (32 ≤ bat s i ∧ bat s i ≤ 126)) : plainR s = false := by
  unfold plainR
  rw [decide_eq_false fun hk => hb (hk i h)]; rfl
theorem plainR_good {s : ByteArray} (h : ∀ j, j < s.size → 32 ≤ bat s j ∧ bat s j ≤ 126) : plainR s = decide ((s.size : Int) ≤ 40) := by
  unfold plainR
  rw [decide_eq_true h]; rfl
theorem below_succ {p : Nat → Prop} {i : Nat} (h : ∀ j, j < i → p j) (hi : p i) : ∀ j, j < i + 1 → p j := fun j hj => by
  rcases Nat.lt_or_ge j i with hk | hk
  · exact h j hk
  · obtain rfl : j = i := by omega
    exact hi
section
variable {G : World → Prop}
theorem l3IsText_ct (s : ByteArray) (hs : s.size ≤ 1048576) : Ct Tryz.prog G 260 [.str s] (fun _ => .bool (plainR s)) := by
  refine ct_enter Tryz.func260 rfl Tryz.ntmps260 rfl rfl fun w0 _ hG => ?_
  repeat' (first | refine W_ ?_ | refine c_ (fun hc => ?_) (fun hc => ?_) | refine g_ (fun hg => ?_) (fun hg => ?_))
  apply aw_loopk (X := Nat) [0] (fun i => [(3, .int .i64 (i : Int))]) (fun _ => []) (fun i => i ≤ s.size ∧ ∀ j, j < i → 32 ≤ bat s j ∧ bat s j ≤ 126) (fun i => s.size - i) 0 ⟨Nat.zero_le _, by simp⟩
  exact kp_; exact nw_
  · exact .refl _
  rintro i ⟨hi, hk⟩
  try dsimp only
  by_cases hlt : i < s.size
  · have hb := bat_bd s i
    by_cases hx : 32 ≤ bat s i ∧ bat s i ≤ 126
    · repeat' (first | refine W_ ?_ | refine c_ (fun hc => ?_) (fun hc => ?_) | refine g_ (fun hg => ?_) (fun hg => ?_))
      exact aq_round (i + 1) ⟨by omega, below_succ hk hx⟩ (by omega) (.of _ nw_ od_ pk_)
    · rw [plainR_bad hlt hx]
      repeat' (first | refine W_ ?_ | refine c_ (fun hc => ?_) (fun hc => ?_) | refine g_ (fun hg => ?_) (fun hg => ?_))
      all_goals first
        | (exfalso; omega)
        | (exact r1_)
  · rw [plainR_good fun j hj => hk j (by omega)]
    repeat' (first | refine W_ ?_ | refine c_ (fun hc => ?_) (fun hc => ?_) | refine g_ (fun hg => ?_) (fun hg => ?_))
    exact r1_
theorem plainText_ct (hst : Stable G) (s : ByteArray) (hs : s.size ≤ 1048576) : Ct Tryz.prog G 222 [.str s] (fun _ => .bool (plainR s)) := by
  refine ct_enter Tryz.func222 rfl Tryz.ntmps222 rfl rfl fun w0 _ hG => ?_
  repeat' (first | refine W_ ?_ | refine c_ (fun hc => ?_) (fun hc => ?_) | refine g_ (fun hg => ?_) (fun hg => ?_))
  apply aw_loopk (X := Nat) [0] (fun i => [(3, .int .i64 (i : Int))]) (fun _ => []) (fun i => i ≤ s.size ∧ ∀ j, j < i → 32 ≤ bat s j ∧ bat s j ≤ 126) (fun i => s.size - i) 0 ⟨Nat.zero_le _, by simp⟩
  exact kp_; exact nw_
  · exact .refl _
  rintro i ⟨hi, hk⟩
  try dsimp only
  by_cases hlt : i < s.size
  · have hb := bat_bd s i
    by_cases hx : 32 ≤ bat s i ∧ bat s i ≤ 126
    · have hw : Ct Tryz.prog G 55 [.int .i64 (bat s i), .int .i64 32, .int .i64 126] (fun _ => .bool true) := by rw [← show inR (bat s i) 32 126 = true from by unfold inR; simp; omega]; exact within_ct _ _ _
      repeat' (first | refine W_ ?_ | refine e_call hG hst (hw) ?_ | refine c_ (fun hc => ?_) (fun hc => ?_) | refine g_ (fun hg => ?_) (fun hg => ?_))
      exact aq_round (i + 1) ⟨by omega, below_succ hk hx⟩ (by omega) (.of _ nw_ od_ pk_)
    · have hw : Ct Tryz.prog G 55 [.int .i64 (bat s i), .int .i64 32, .int .i64 126] (fun _ => .bool false) := by rw [← show inR (bat s i) 32 126 = false from by unfold inR; simp; omega]; exact within_ct _ _ _
      rw [plainR_bad hlt hx]
      repeat' (first | refine W_ ?_ | refine e_call hG hst (hw) ?_ | refine c_ (fun hc => ?_) (fun hc => ?_) | refine g_ (fun hg => ?_) (fun hg => ?_))
      exact r1_
  · rw [plainR_good fun j hj => hk j (by omega)]
    repeat' (first | refine W_ ?_ | refine c_ (fun hc => ?_) (fun hc => ?_) | refine g_ (fun hg => ?_) (fun hg => ?_))
    exact r1_
end
end Go.Proofs.YtiihihgjiklnoaaGreatDoor
/- IsVerified: what both sides compute of the classes (no program in sight). -/
namespace Go.Proofs.YtiihihgjiklnoaaGreatDoor
open Go Go.RowKit
/-- The fields of a class have names of their own. -/
def fieldAt (f : List ByteArray) (k : Nat) (s : ByteArray) : Bool := isNameL s.data.toList && !hasS (f.take k) s
def fieldsOk (f : List ByteArray) : Prop := ∀ (k : Nat) (h : k < f.length), fieldAt f k f[k] = true
/-- A class behind the built-in ones, ahead of its fields' names. -/
def classHead (_l : List TClassInfo) (i : Nat) (x : TClassInfo) : Prop :=
  isNameL x.name.data.toList = true ∧ (0 ≤ x.parent ∧ x.parent < i) ∧ ¬ (5 ≤ x.parent ∧ x.parent ≤ 15) ∧ x.fields.length ≤ 8
instance (l : List TClassInfo) (i : Nat) (x : TClassInfo) : Decidable (classHead l i x) := by unfold classHead; infer_instance
def freshName (l : List TClassInfo) (i : Nat) (x : TClassInfo) : Prop := ∀ y ∈ l.take i, y.name ≠ x.name
def parentFields (l : List TClassInfo) (x : TClassInfo) : List ByteArray := match l[x.parent.toNat]? with
  | some p => p.fields
  | none => []
def heirs (l : List TClassInfo) (x : TClassInfo) : Prop := (parentFields l x).length ≤ x.fields.length ∧ x.fields.take (parentFields l x).length = parentFields l x
def classOk (l : List TClassInfo) (i : Nat) (x : TClassInfo) : Prop :=
  if i < 16 then ∃ b, builtinL[i]? = some b ∧ x.name = b.name ∧ x.parent = b.parent ∧ x.fields = b.fields
  else classHead l i x ∧ freshName l i x ∧ heirs l x ∧ fieldsOk x.fields
def classesOkP (l : List TClassInfo) : Prop := (16 ≤ l.length ∧ l.length ≤ 24) ∧ ∀ (i : Nat) (h : i < l.length), classOk l i l[i]
open Classical in
noncomputable def classesOkB (l : List TClassInfo) : Bool := decide (classesOkP l)
open Classical in
theorem classesOk_len {l : List TClassInfo} (h : ¬ (16 ≤ l.length ∧ l.length ≤ 24)) : classesOkB l = false := decide_eq_false fun k => h k.1
open Classical in
theorem classesOk_bad {l : List TClassInfo} {i : Nat} (h : i < l.length) (hb : ¬ classOk l i l[i]) : classesOkB l = false := decide_eq_false fun k => hb (k.2 i h)
open Classical in
theorem classesOk_good {l : List TClassInfo} (hl : 16 ≤ l.length ∧ l.length ≤ 24) (h : ∀ j, j < l.length → ∀ h : j < l.length, classOk l j l[j]) : classesOkB l = true := decide_eq_true ⟨hl, fun i hi => h i hi hi⟩
theorem classOk_low {l : List TClassInfo} {i : Nat} {x b : TClassInfo} (h : i < 16) (hb : builtinL[i]? = some b) : classOk l i x ↔ x.name = b.name ∧ x.parent = b.parent ∧ x.fields = b.fields := by
  unfold classOk
  rw [if_pos h]
  constructor
  · rintro ⟨c, hc, k⟩
    rw [hb] at hc; cases hc; exact k
  · exact fun k => ⟨b, hb, k⟩
theorem classOk_high {l : List TClassInfo} {i : Nat} {x : TClassInfo} (h : ¬ i < 16) : classOk l i x ↔ classHead l i x ∧ freshName l i x ∧ heirs l x ∧ fieldsOk x.fields := by
  unfold classOk
  rw [if_neg h]
theorem parentFields_eq {l : List TClassInfo} {x p : TClassInfo} {k : Nat} (h : x.parent = k) (hp : l[k]? = some p) : parentFields l x = p.fields := by
  unfold parentFields
  rw [h, Int.toNat_natCast, hp]
/-- The same of the entries and codes would follow: l16Entries, outers, instrOk. -/
theorem fieldsOk_bad {f : List ByteArray} {k : Nat} (h : k < f.length) (hb : fieldAt f k f[k] = false) : ¬ fieldsOk f := fun a => by
  have := a k h
  rw [hb] at this; cases this
end Go.Proofs.YtiihihgjiklnoaaGreatDoor
/- StackDepths by the engine: the program's effect, next, labelsOf. -/
namespace Go.Proofs.YtiihihgjiklnoaaGreatDoor
set_option maxRecDepth 20000
open Go Go.RowKit
set_option maxRecDepth 4000 in
set_option maxHeartbeats 2000000 in
theorem effect_ct {G : World → Prop} (hst : Stable G) (hca : ∀ s : ByteArray, s.size ≤ 1048576 → Ct Tryz.prog G 136 [.str s] (fun _ => .int .i64 (nArgsL s.data.toList))) (op a b : Int) (t : ByteArray) (hs : t.size ≤ 1048576) (hop : inR op 1 26 = true) : Ct Tryz.prog G 217 [.agg [.int .i64 op, .int .i64 a, .int .i64 b, .str t]] (fun _ => .tup [.int .i64 (TInstr.eff ⟨op, a, b, t⟩).1, .int .i64 (TInstr.eff ⟨op, a, b, t⟩).2]) := by
  refine ct_enter Tryz.func217 rfl Tryz.ntmps217 rfl rfl fun w0 _ hG => ?_
  have h1 := nArgs_ge t.data.toList
  have h2 := nArgs_le t.data.toList
  simp only [inR, decide_eq_true_eq] at hop
  repeat' (first | refine W_ ?_ | refine e_box ?_ | refine e_call hG hst (hca _ hs) ?_ | refine c_ (fun hc => ?_) (fun hc => ?_) | refine g_ (fun hg => ?_) (fun hg => ?_))
  all_goals
    clear hst
    have he : TInstr.eff ⟨op, a, b, t⟩ = TInstr.eff ⟨op, a, b, t⟩ := rfl
    conv at he => rhs; unfold TInstr.eff
    dsimp only at he
    rw [he]
    refine aq_ret2 x_ rfl (.tmp _ _ rfl) (.tmp _ _ rfl) (fun _ => ?_) (fun _ => ?_)
    all_goals
      refine fin_int ?_
      first
        | (subst hc; simp; done)
        | (have h3 : op = 20 ∨ op = 23 := by omega
           rcases h3 with rfl | rfl <;> simp; done)
        | (have h3 : ¬ (op = 20 ∨ op = 23) := by omega
           simp [*]; done)
        | (simp [*]; done)
def plR (l : List (Int × Int)) : List (List TV) := l.map fun x => [.int .i64 x.1, .int .i64 x.2]
theorem fin_pl0 {B L : Nat} {objs : Objs} {l : List (Int × Int)} (h : l = []) : Fin B objs L .nils (.sl L 2 (plR l)) := by subst h; exact .nils _
theorem fin_pl {B L : Nat} {objs : Objs} {l : List (Int × Int)} {rows : List (List TV)} (h : rows = plR l) : Fin B objs L (.sl B 2 rows) (.sl L 2 (plR l)) := by
  subst h
  refine Fin.slFlat (Nat.le_refl _) fun t ht => ?_
  obtain ⟨r, hr, htr⟩ := List.mem_flatten.1 ht
  obtain ⟨x, _, rfl⟩ := List.mem_map.1 hr
  simp at htr
  rcases htr with rfl | rfl <;> rfl
set_option maxRecDepth 4000 in
set_option maxHeartbeats 2000000 in
theorem next_ct {G : World → Prop} (hst : Stable G) (hca : ∀ s : ByteArray, s.size ≤ 1048576 → Ct Tryz.prog G 136 [.str s] (fun _ => .int .i64 (nArgsL s.data.toList))) (op a b : Int) (t : ByteArray) (p : Nat) (d : Int) (hs : t.size ≤ 1048576) (hop : inR op 1 26 = true) (hp : p ≤ 1048576) (hd : 0 ≤ d ∧ d ≤ 250) :
    Ct Tryz.prog G 218 [.agg [.int .i64 op, .int .i64 a, .int .i64 b, .str t], .int .i64 (p : Int), .int .i64 d] (fun L => .sl L 2 (plR (TInstr.nexts ⟨op, a, b, t⟩ p d))) := by
  refine ct_enter Tryz.func218 rfl Tryz.ntmps218 rfl rfl fun w0 _ hG => ?_
  have hef := effect_ct hst hca op a b t hs hop
  have her := eff_range ⟨op, a, b, t⟩
  have hnx : TInstr.nexts ⟨op, a, b, t⟩ p d = TInstr.nexts ⟨op, a, b, t⟩ p d := rfl
  conv at hnx => rhs; unfold TInstr.nexts
  dsimp only at hnx
  rw [hnx]
  generalize (TInstr.eff ⟨op, a, b, t⟩).1 = e1 at *
  generalize (TInstr.eff ⟨op, a, b, t⟩).2 = e2 at *
  simp only [inR, decide_eq_true_eq] at hop
  repeat' (first | refine W_ ?_ | refine e_box ?_ | refine e_lit ?_ | refine e_build ?_ | refine e_call hG hst (hef) ?_ | refine c_ (fun hc => ?_) (fun hc => ?_) | refine g_ (fun hg => ?_) (fun hg => ?_))
  all_goals
    clear hst hca hef her hnx
    refine aq_ret1 x_ rfl (.tmp _ _ rfl) (fun _ => ?_)
    first
      | (refine fin_pl0 ?_; simp [*]; done)
      | (refine fin_pl ?_; simp [plR, *]; done)
      | (refine fin_pl ?_; have h3 : ¬ (op = 21 ∨ op = 22) := by omega
         simp [plR, *]; done)
      | (refine fin_pl ?_; have h3 : ¬ (op = 21 ∨ op = 22) := by omega
         have h4 : ¬ (op = 24 ∨ op = 25) := by omega
         simp [plR, *]; done)
def labOff (op : Int) : List Nat := if op = 20 then [1] else if op = 21 ∨ op = 22 then [1, 2] else if op = 24 ∨ op = 25 ∨ op = 26 then [2] else []
def labR (op : Int) (s b : Nat) : List (List TV) := (labOff op).map fun o => [.mp s b o]
theorem labs_eq (op a b : Int) (t : ByteArray) : TInstr.labs ⟨op, a, b, t⟩ = (labOff op).map fun o => if o = 1 then a else b := by
  unfold TInstr.labs labOff
  dsimp only
  repeat' split
  all_goals simp
set_option maxRecDepth 4000 in
set_option maxHeartbeats 2000000 in
theorem labelsOf_ct {G : World → Prop} (s9 b9 : Nat) (op a b : Int) (t : ByteArray) : CtM Tryz.prog G 216 [.mp s9 b9 0] [(s9, b9, .box [.int .i64 op, .int .i64 a, .int .i64 b, .str t])] (fun _ : Nat × Nat => True)
    (fun y => [(y.1, y.2, .row 1 (labR op s9 b9)), (s9, b9, .box [.int .i64 op, .int .i64 a, .int .i64 b, .str t])]) (fun y => .ms y.1 y.2 0 (labR op s9 b9).length) := by
  have hcase : (op = 20 ∧ labR op s9 b9 = [[.mp s9 b9 1]]) ∨ ((op = 21 ∨ op = 22) ∧ labR op s9 b9 = [[.mp s9 b9 1], [.mp s9 b9 2]]) ∨ ((op = 24 ∨ op = 25 ∨ op = 26) ∧ labR op s9 b9 = [[.mp s9 b9 2]]) ∨ (¬ op = 20 ∧ ¬ op = 21 ∧ ¬ op = 22 ∧ ¬ op = 24 ∧ ¬ op = 25 ∧ ¬ op = 26 ∧ labR op s9 b9 = []) := by
    unfold labR labOff
    by_cases h20 : op = 20
    · exact .inl ⟨h20, by simp [h20]⟩
    by_cases h21 : op = 21 ∨ op = 22
    · exact .inr (.inl ⟨h21, by simp [h20, h21]⟩)
    by_cases h24 : op = 24 ∨ op = 25 ∨ op = 26
    · exact .inr (.inr (.inl ⟨h24, by simp [h20, h21, h24]⟩))
    · exact .inr (.inr (.inr ⟨h20, by omega, by omega, by omega, by omega, by omega, by simp [h20, h21, h24]⟩))
  rcases hcase with ⟨h1, hr⟩ | ⟨h1, hr⟩ | ⟨h1, hr⟩ | ⟨h1, h2, h3, h4, h5, h6, hr⟩
  all_goals
    rw [hr]
    refine ctm_enter Tryz.func216 rfl Tryz.ntmps216 rfl rfl rfl fun w0 R gs objsR hG hR => ?_
    obtain rfl := hR.inv1
    repeat' (first | refine W_ ?_ | (refine e_own ?_; intro ss bb) | (with_reducible apply aw_draw2 (id := 6) 6; kernel_rfl; kernel_rfl; kernel_rfl; (repeat (first | exact Cut.zero _ | apply Cut.succ))) | with_reducible refine aw_draw (by kernel_rfl) (by kernel_rfl) ?_ | with_reducible refine dr_nil ?_ | with_reducible refine dr_nil2 ?_ | with_reducible refine dr_none rfl ?_ | refine dr_run rfl rfl rfl rr_ ?_ | refine dr_skip rfl rfl rfl rr_ rfl rfl rfl ?_ | refine dr_skip2 rfl rfl rfl rr_ rfl rfl ?_ | (refine dr_gt rfl rfl rfl rr_ dd_ ?_) | (refine dr_gf rfl rfl rfl rr_ dd_ ?_) | (refine dr_gsplit rfl rfl rfl rr_ (fun hg => ?_) (fun hg => ?_)) | (refine dr_gsplit_b rfl rfl rfl rr_ (fun hg => ?_) (fun hg => ?_)) | ((with_reducible apply d_y); exact y_; rfl) | refine c_ (fun hc => ?_) (fun hc => ?_) | refine g_ (fun hg => ?_) (fun hg => ?_))
  all_goals first
    | (refine aq_retm1 x_ rfl (ss, bb) trivial rfl (.cons _ _ _ _ (.cons _ _ _ _ (.nil R))) pk_ (.tmp _ _ rfl) rfl; done)
    | (refine aq_nils 2 1 (by omega) rfl fun ss => aq_retm1 x_ rfl (ss, 0) trivial rfl (.cons _ _ _ _ (.cons _ _ _ _ (.nil R))) pk_ (.tmp _ _ rfl) rfl; done)
end Go.Proofs.YtiihihgjiklnoaaGreatDoor
/- The library's slices.Repeat over ints, of a slice of one element. -/
namespace Go.Proofs.YtiihihgjiklnoaaGreatDoor
open Go Go.RowKit

theorem Tryz.intSz : (Tryz.prog.info? 3).map (·.size) = some 1 := by kernel_rfl
/-- k cells of -1, then zeros. -/
def repC (n k : Nat) : List Value := List.replicate k (.int .i64 (-1)) ++ List.replicate (n - k) (.int .i64 0)
theorem repC_length {n k : Nat} (h : k ≤ n) : (repC n k).length = n := by simp [repC]; omega
theorem repC_splice {n k m : Nat} (_h : k + m ≤ n) : (repC n k).take k ++ (List.replicate m (.int .i64 (-1)) ++ (repC n k).drop (k + m)) = repC n (k + m) := by
  have h1 : (repC n k).take k = List.replicate k (.int .i64 (-1)) := by
    unfold repC; rw [List.take_append_of_le_length (by simp)]; simp
  have h2 : (repC n k).drop (k + m) = List.replicate (n - (k + m)) (.int .i64 0) := by
    unfold repC; rw [List.drop_append]; simp; omega
  rw [h1, h2, ← List.append_assoc, List.replicate_append_replicate]; rfl
theorem repC_get {n k j : Nat} (h : j < k) (_hk : k ≤ n) : (repC n k)[j]? = some (.int .i64 (-1)) := by
  unfold repC
  rw [List.getElem?_append_left (by simpa using h)]
  simp [h]

set_option maxRecDepth 100000 in
set_option maxHeartbeats 1000000 in
theorem repeat_any (B q c n : Nat) (w : World) (hc : w.cell? ⟨B, q, none⟩ = some (.int .i64 (-1))) (hn0 : 1 ≤ n) (hn : n ≤ 1048576) :
    Calls Tryz.prog 215 #[.slice (some ⟨B, q, none⟩) 1 c, .int .i64 n] w fun e w' => e = .returned (.slice (some ⟨w.heap.size, 0, none⟩) n n) ∧ Below w.heap.size w w' ∧ Blk w' w.heap.size 3 (List.replicate n (Value.int .i64 (-1))).toArray := by
  have hmk := fun w => run_make_n (P := Tryz.prog) 40 3 (.int .i64 0) 1 8 Tryz.underlying40 Tryz.infoInt .i64 .i64 n (by omega) (by omega) w
  have hd1 : ((1 * n / 18446744073709551616 : Nat) : Int) = 0 := by omega
  have hd2 : ((1 * n % 18446744073709551616 : Nat) : Int) = (n : Int) := by omega
  have Hd1 := Lib.hid hd1
  have Hd2 := Lib.hid hd2
  have i1 : ¬ (n : Int) < 0 := by omega
  have i2 : ¬ (9223372036854775807 : Int) < (n : Int) := by omega
  clear hd1 hd2
  go_enter Tryz.func215, Tryz.ntmps215
  clear hmk
  go_wp2_with fail
  refine (Tryz.bits_Mul 1 n (by omega) (by omega) _).mono ?_
  rintro e w' ⟨he, hw⟩
  rw [Hd1.out, Hd2.out] at he
  subst he
  subst hw
  have hmk := fun w => run_make_n (P := Tryz.prog) 40 3 (.int .i64 0) 1 8 Tryz.underlying40 Tryz.infoInt .i64 .i64 n (by omega) (by omega) w
  have hcell : (w'.alloc (.cells (madeCells #[Value.int .i64 0] n) 3)).cell? ⟨B, q, none⟩ = some (.int .i64 (-1)) := (Below.cell (B := w'.heap.size) ((Below.refl _ _).alloc (Nat.le_refl _) _) (p := ⟨B, q, none⟩) (World.block_lt_of_cell? w' _ hc)).trans hc
  have hmin : 1 = Nat.min 1 n := (Nat.min_eq_left hn0).symm
  have Hmin := Lib.hid hmin
  have Hs1 := Lib.hid (show ∀ (j : Nat) v, [Value.int .i64 (-1)][j]? = some v → (w'.alloc (.cells (madeCells #[Value.int .i64 0] n) 3)).cell? ((⟨B, q, none⟩ : Addr).add j) = some v from fun j v hj => by
    have hj0 : j = 0 := by have := (List.getElem?_eq_some_iff.1 hj).1; simpa using this
    subst hj0
    simp at hj
    subst hj
    exact hcell)
  clear hmin
  go_wp2_with ((refine wpList_copy_own rfl (.tmp 31) (.tmp 32) 40 40 rfl 3 Tryz.underlying40 Tryz.intSz w'.heap.size 0 n n ⟨B, q, none⟩ 1 c rfl rfl (madeCells #[Value.int .i64 0] n) 3 (heap_alloc_new w' _) [.int .i64 (-1)] Hmin.out Hs1.out (by simp [madeCells]; omega) (by simp [Value.oneCell']) ?_))
  clear hmk hcell hc
  go_loopg [8] (n - 1) (fun gk v wr => ∃ k : Nat, 1 ≤ k ∧ k ≤ n ∧ gk = n - k ∧ v = .int .i64 k ∧ Below w'.heap.size w' wr ∧ Blk wr w'.heap.size 3 (repC n k).toArray)
  case atStart =>
    refine ⟨1, Nat.le_refl _, hn0, rfl, rfl, below_setRow ((Below.refl _ _).alloc (Nat.le_refl _) _) (Nat.le_refl _) _, ?_⟩
    have h := setRow_heap (w'.alloc (.cells (madeCells #[Value.int .i64 0] n) 3)) w'.heap.size (madeCells #[Value.int .i64 0] n) (repC n 1).toArray 3 (0, 0) (heap_alloc_new w' _)
    have e : (repC n 1) = Value.int .i64 (-1) :: (madeCells #[Value.int .i64 0] n).toList.tail := by
      rw [toList_madeCells_one, List.tail_replicate]; simp [repC]
    rw [e] at h ⊢
    exact h
  case round =>
    obtain ⟨k, hk1, hk, rfl, rfl, hb, hB⟩ := hrel
    by_cases hlt : k < n
    · have hne : ¬ n = k := by omega
      have i3 : (0 : Int) ≤ (k : Int) := by omega
      have i4 : (k : Int) ≤ (n : Int) := by omega
      have hmm : Nat.min k (n - k) ≤ n - k ∧ Nat.min k (n - k) ≤ k := ⟨Nat.min_le_right _ _, Nat.min_le_left _ _⟩
      generalize hmd : Nat.min k (n - k) = m at hmm
      have Hmd := Lib.hid hmd
      have hm1 : 1 ≤ m := by rw [← hmd]; exact Nat.le_min.2 ⟨hk1, by omega⟩
      clear hmd
      have Hs2 := Lib.hid (show ∀ (j : Nat) v, (List.replicate m (Value.int .i64 (-1)))[j]? = some v → wr.cell? ((⟨w'.heap.size, 0, none⟩ : Addr).add j) = some v from fun j v hj => by
        have hjm : j < m := by have := (List.getElem?_eq_some_iff.1 hj).1; simpa using this
        simp [hjm] at hj
        subst hj
        rw [Addr.add_lit, Nat.zero_add, hB.cell j]
        simpa using repC_get (n := n) (k := k) (j := j) (by omega) hk)
      have Hspl := Lib.hid (repC_splice (n := n) (k := k) (m := m) (by omega))
      have HL := Lib.hid (repC_length hk)
      have HB := Lib.hid hB
      clear hB
      go_wp2
      have HB2 := Lib.hid (show wr.drew.heap[w'.heap.size]? = some (.cells (repC n k).toArray 3 (0, 0)) from HB.out)
      go_region_held3 (fun W => Below w'.heap.size w' W) (first | exact hb | exact hb.drew | exact h4) (first | (refine step_copy_splice rfl (.tmp 41) (.tmp 44) 40 40 rfl 3 Tryz.underlying40 Tryz.intSz _ _ (n - k) (n - k) k n rfl rfl w'.heap.size k (repC n k) 3 HB2.out (List.replicate m (.int .i64 (-1))) (by rw [List.length_replicate, Hmd.out]) (fun _ => ⟨by simp, _, rfl, Hs2.out⟩) (by rw [List.length_replicate, HL.out]; omega) (fun v hv => by rw [List.eq_of_mem_replicate hv]; rfl) w'.heap.size w' (by exact hb.drew) (Nat.le_refl _) ?_; intro w3 h3 h4))
      all_goals
        have h5 : Blk w3 w'.heap.size 3 (repC n (k + m)).toArray := by
          have := h3.out
          unfold splice at this
          rw [List.length_replicate, Hspl.out] at this
          exact this
        clear h3
        go_wp2
        go_roundg (n - (k + m))
        case measure => omega
        case rel => exact ⟨k + m, by omega, by omega, rfl, by simp; exact IntWalk.i64_in _ (by omega), h4, h5⟩
    · go_wp2
      go_ret
      obtain rfl : k = n := by omega
      refine ⟨rfl, hb, ?_⟩
      unfold repC at hB
      simpa using hB
end Go.Proofs.YtiihihgjiklnoaaGreatDoor
/- slices.Repeat as a contract of the walk. -/
namespace Go.Proofs.YtiihihgjiklnoaaGreatDoor
open Go Go.RowKit
section
variable {w0 w w' : World} {objs : Objs} {ss b : Nat} {ob : TObj}
theorem step_newB (hw : SimW w0 objs w) (hbel : Below w.heap.size w w') (hb : w.heap.size ≤ b) : Step w objs w' ((ss, b, ob) :: objs) := by
  have hk : ∀ k, k < w.heap.size → w'.heap[k]? = w.heap[k]? := fun k hk => hbel.block k hk
  have hpos : 0 < w.heap.size := Nat.lt_of_lt_of_le hw.pos hw.below.size
  refine ⟨fun k h _ => hk k h, fun k h ha => ⟨ha.1, ?_⟩, fun s k m rows h _ hm => ?_, hbel.size, fun hm => ?_⟩
  · obtain ⟨s, o, hm⟩ := ha.2
    rcases List.mem_cons.1 hm with he | hm
    · simp only [Prod.mk.injEq] at he; omega
    · exact ⟨s, o, hm⟩
  · rcases List.mem_cons.1 hm with he | hm
    · simp only [Prod.mk.injEq] at he; omega
    · exact ⟨⟨rows, hm⟩, shape_same (hk k h)⟩
  · rcases List.mem_cons.1 hm with he | hm
    · simp only [marker, Prod.mk.injEq] at he; omega
    · exact hm
theorem SimW.newB (hw : SimW w0 objs w) (hbel : Below w.heap.size w w') (hb : w.heap.size ≤ b) (hs : ∀ x ∈ objs, x.1 ≠ ss) (ho : ObjOk w' w0.heap.size ((ss, b, ob) :: objs) b ob) : SimW w0 ((ss, b, ob) :: objs) w' :=
  ⟨hw.below.trans (hbel.mono hw.below.size), hw.pos, fun s k o hm => by
    rcases List.mem_cons.1 hm with he | hm
    · simp only [Prod.mk.injEq] at he; obtain ⟨rfl, rfl, rfl⟩ := he; exact ho
    · exact (hw.obj s k o hm).step (step_newB hw hbel hb) (hbel.block k (objs_lt hw hm)),
  List.pairwise_cons.2 ⟨fun y hy => ⟨fun e => hs y hy e.symm, .inl (by have := objs_lt (s := y.1) (b := y.2.1) (ob := y.2.2) hw hy; simp only; omega)⟩, hw.sites⟩⟩
end
theorem rep_intRow {w : World} {B b n : Nat} {objs : Objs} (hB : B ≤ b) (hn : n ≤ 1048576) (x : Int) (hb : Blk w b 3 (List.replicate n (Value.int .i64 x)).toArray) : ObjOk w B objs b (.row 1 (intR (List.replicate n x))) := by
  refine ⟨⟨by omega, fun t ht => by have := intR_flat _ t ht; cases t <;> first | rfl | cases this⟩, fun r hr => ?_, .inr ⟨hB, _, _, n, hb, by simp, by simp [intR], by simp [maxLen]; omega, fun j t hj => ?_⟩⟩
  · obtain ⟨y, _, rfl⟩ := List.mem_map.1 hr; rfl
  · rw [intR_flatten, List.getElem?_map, Option.map_eq_some_iff] at hj
    obtain ⟨y, hy, rfl⟩ := hj
    obtain rfl := List.eq_of_mem_replicate (List.mem_of_getElem? hy)
    have hlt : j < n := by simpa using (List.getElem?_eq_some_iff.1 hy).1
    exact ⟨_, by simp [hlt], .int _ _⟩
theorem repeat_ct {G : World → Prop} (lo n : Nat) (hn0 : 1 ≤ n) (hn : n ≤ 1048576) : CtM Tryz.prog G 215 [.sl lo 1 [[.int .i64 (-1)]], .int .i64 n] [] (fun _ : Nat × Nat => True) (fun y => [(y.1, y.2, .row 1 (intR (List.replicate n (-1))))]) (fun y => .ms y.1 y.2 0 n) := fun w0 w R gs vs hG hw hgs hsz hrep => by
  simp only [List.nil_append] at hw hgs hrep
  obtain ⟨v1, v2, rfl⟩ : ∃ v1 v2, vs = #[v1, v2] := by
    match vs, hsz with
    | ⟨[v1, v2]⟩, _ => exact ⟨v1, v2, rfl⟩
  have h1 := hrep 0 _ v1 rfl rfl
  have h2 := (hrep 1 _ v2 rfl rfl).int_inv
  subst h2
  obtain ⟨A, c, rfl, _, _, _, _, h3⟩ := rep_sl h1
  obtain ⟨b, q, u, rfl, _, h5, h6⟩ := h3 0 (.int .i64 (-1)) rfl
  rw [h6.int_inv] at h5
  refine (repeat_any b q c n w (by simpa using h5) hn0 hn).mono ?_
  rintro e w' ⟨rfl, hbel, hblk⟩
  obtain ⟨ss, hss⟩ := site_new R
  have hwB : w0.heap.size ≤ w.heap.size := hw.below.size
  have hst := step_newB (ss := ss) (ob := .row 1 (intR (List.replicate n (-1)))) hw hbel (Nat.le_refl _)
  have hlt : w.heap.size < w'.heap.size := hblk.lt
  have hb0 : w.heap.size ≠ 0 := Nat.ne_of_gt (Nat.lt_of_lt_of_le hw.pos hwB)
  have hw' := hw.newB (ss := ss) hbel (Nat.le_refl _) hss (rep_intRow (w := w') hwB hn (-1) hblk)
  refine ⟨_, (ss, w.heap.size), rfl, trivial, hw', hgs.step hst, .ms _ _ _ _ _ (.mk ⟨hlt, hw'.noMark, _, _, rfl⟩ (fun m rows hm => .inr ⟨hb0, 0, n, 3, n * 1, rfl, Nat.le_refl _, ?_, ?_, fun _ => by simp⟩) (fun h0 => absurd h0 hb0))⟩
  · unfold World.shape?; rw [hblk]; simp
  · rcases List.mem_cons.1 hm with he | hm
    · simp only [Prod.mk.injEq, TObj.row.injEq] at he; rw [he.2.2.1]; simp
    · exact absurd (objs_lt hw hm) (Nat.lt_irrefl _)
end Go.Proofs.YtiihihgjiklnoaaGreatDoor
